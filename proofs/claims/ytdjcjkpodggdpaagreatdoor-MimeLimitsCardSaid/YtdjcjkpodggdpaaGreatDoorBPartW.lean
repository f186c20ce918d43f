/- The contract of (*reader).part. -/
import Derived.Test.YtdjcjkpodggdpaaGreatDoorBPartV
namespace Go.Proofs.YtdjcjkpodggdpaaGreatDoor
open Go.RowKit
attribute [local go_sem] Oper.semAt_some

theorem wrap_small {n : Nat} (h : n ≤ 1000000) : IntKind.i64.wrap ((n : Int) + 1) = (n : Int) + 1 := by
  rw [IntKind.wrap_i64]
  omega
theorem notFrom (B : Nat) : ¬ From (B + 1) B := by unfold From; omega
theorem notFrom2 {A B : Nat} (h : A < B) : ¬ From (B + 1) A := by unfold From; omega
theorem Tryz.info27 : (Tryz.prog.info? 27).map (fun i => (i.zero, i.size, i.bytes)) = some (some (.agg #[.slice none 0 0, .string ByteArray.empty, .slice none 0 0, .string ByteArray.empty, .slice none 0 0]), 5, 104) := by kernel_rfl

set_option maxHeartbeats 4000000 in
set_option maxRecDepth 100000 in
theorem part_step (dec : List UInt8 → List UInt8 → Option (List UInt8)) (n : Nat)
    (hdec : ∀ l e c w, l.length ≤ 16777216 → e.length ≤ 16777216 → dec l e = some c → c.length ≤ l.length ∧ Calls Tryz.prog 20 #[vstr l, vstr e] w fun r w' => r = .returned (vstr c) ∧ Ext w w')
    (hrec : ∀ s level known q k2, partB dec n s level known = some (q, k2) → s.length ≤ 16777216 → level ≤ 40 → known ≤ 300 → ∀ r w, Boxed w r 37 (.int .i64 known) →
      Calls Tryz.prog 10 #[.pointer (some ⟨r, 0, none⟩), vstr s, .int .i64 level] w fun e w' => ∃ v, e = .returned v ∧ PartAt w' (From w.heap.size) q v ∧ Boxed w' r 37 (.int .i64 k2) ∧ k2 ≤ 300 ∧ Old w.heap.size [r] w w')
    (s : List UInt8) (level known : Nat) (q : PartT) (k2 : Nat) (hq : partB dec (n + 1) s level known = some (q, k2)) (hs : s.length ≤ 16777216) (hlev : level ≤ 40) (hkn : known ≤ 300) (r : Nat) (w : World) (hr : Boxed w r 37 (.int .i64 known)) :
    Calls Tryz.prog 10 #[.pointer (some ⟨r, 0, none⟩), vstr s, .int .i64 level] w fun e w' => ∃ v, e = .returned v ∧ PartAt w' (From w.heap.size) q v ∧ Boxed w' r 37 (.int .i64 k2) ∧ k2 ≤ 300 ∧ Old w.heap.size [r] w w' := by
  have Hq := Lib.hid hq
  have Hdec := Lib.hid hdec
  have Hrec := Lib.hid hrec
  clear hq hdec hrec
  go_enter Tryz.func10, Tryz.ntmps10
  go_wp2_with fail
  refine (parse_any s _ hs).mono ?_
  rintro e w1 ⟨v, rfl, hpv, x1⟩
  have hps := parseB_short s
  have hpm := parseB_many s
  have hpe := parseB_le s
  obtain ⟨fa, fn, fc, hv, hfn⟩ : ∃ fa fn fc, v = .slice fa fn fc ∧ fn = (parseB s).1.length := by
    rcases hpv with ⟨h, a, c, rfl⟩ | ⟨_, b, c, rfl, _⟩
    · exact ⟨_, _, _, rfl, by rw [h]; rfl⟩
    · exact ⟨_, _, _, rfl, rfl⟩
  subst hv hfn
  obtain ⟨fs, hfs⟩ : ∃ fs, fs = (parseB s).1 := ⟨_, rfl⟩
  obtain ⟨at_, hat⟩ : ∃ at_, at_ = (parseB s).2 := ⟨_, rfl⟩
  rw [← hfs] at hps hpm hpv
  rw [← hat] at hpe
  rw [← hfs, ← hat]
  have x1' : Ext w w1 := ((Ext.refl w).alloc _).trans x1
  have F6 : Five w1 w.heap.size (.slice none 0 0) (vstr []) (.slice none 0 0) (vstr []) (.slice none 0 0) := (x1.heap (by simp)).trans (heap_new w _)
  have Hpv := Lib.hid hpv
  have Hfs := Lib.hid hfs
  have Hat := Lib.hid hat
  have Hps := Lib.hid hps
  have X1 := Lib.hid x1'
  have H6 := Lib.hid F6
  clear hpv hfs hat hps x1 x1' F6
  go_wp2_with fail
  obtain ⟨B, hB⟩ : ∃ B, B = w1.heap.size := ⟨_, rfl⟩
  obtain ⟨W2, hW2⟩ : ∃ W2, W2 = w1.alloc (.cells #[.slice none 0 0, vstr plainB, .slice none 0 0, vstr [], .slice none 0 0] 27) := ⟨_, rfl⟩
  have F2 : Five W2 B (.slice none 0 0) (vstr plainB) (.slice none 0 0) (vstr []) (.slice none 0 0) := by rw [hB, hW2]; exact heap_new w1 _
  have x2 : Ext w1 W2 := by rw [hW2]; exact (Ext.refl w1).alloc _
  rw [show w1.alloc (.cells #[.slice none 0 0, .string { data := #[116, 101, 120, 116, 47, 112, 108, 97, 105, 110] }, .slice none 0 0, .string { data := #[] }, .slice none 0 0] 27) = W2 from hW2.symm, ← hB]
  have HB := Lib.hid hB
  clear hW2 hB
  obtain ⟨i0, hi, hz0, hz1, hz2⟩ := info_parts Tryz.info33d
  go_loopw [31] (fun i wr => ∃ (k : Nat) (vk : Value), k ≤ fs.length ∧ i = .int .i64 k ∧ Five wr B vk (vstr plainB) (.slice none 0 0) (vstr []) (.slice none 0 0) ∧ wr.ownsRow (B + 1) 33 2 vk (keptB (fs.take k)).length (pairCells (keptB (fs.take k))) ∧ Ext w1 wr)
      (fun i _ => fs.length - (intOf i).toNat)
  case atStart => exact ⟨0, _, Nat.zero_le _, rfl, F2, World.ownsRow_nil _ _ _ _, x2⟩
  case round =>
    obtain ⟨k, vk, hk, rfl, F, ho, hx⟩ := hrel
    by_cases hlt : k < fs.length
    · rcases (Hpv.out).at with ⟨h0, _⟩ | ⟨hne, bb, o, c', he, hcl, hcells⟩
      · rw [h0] at hlt; simp at hlt
      cases he
      obtain ⟨hc1, hc2⟩ := hcells k hlt
      have hd1 := hx.holds hc1
      have hd2 := hx.holds hc2
      have hsn := keptB_snoc fs k hlt
      have hpk := Hps.out _ (List.getElem_mem hlt)
      have hkl : (keptB (fs.take k)).length ≤ fs.length := Nat.le_trans (List.length_filter_le _ _) (by simp; omega)
      obtain ⟨K, hK⟩ : ∃ K, K = keptB (fs.take k) := ⟨_, rfl⟩
      rw [← hK] at ho hsn hkl
      obtain ⟨nm, hnm⟩ : ∃ nm, nm = fs[k].1 := ⟨_, rfl⟩
      obtain ⟨vl, hvl⟩ : ∃ vl, vl = fs[k].2 := ⟨_, rfl⟩
      have hpk2 : fs[k] = (nm, vl) := by rw [hnm, hvl]
      rw [← hnm] at hd1 hsn hpk
      rw [← hvl] at hd2 hpk
      rw [hpk2] at hsn
      have Hsn := Lib.hid hsn
      have Ho := Lib.hid ho
      have Hx := Lib.hid hx
      have HF := Lib.hid F
      clear hcells hc1 hc2 hsn hK hnm hvl hpk2 hx hne ho F F2 x2
      go_wp2_with fail
      refine (isMime_l nm _ (by omega)).mono ?_
      rintro e w5 ⟨rfl, x5⟩
      have X0 : w5.cell? ⟨wr.heap.size, 0, none⟩ = some (vstr nm) := x5.holds (by rw [World.cell?_alloc_mark]; rfl)
      have X1 : w5.cell? ⟨wr.heap.size, 1, none⟩ = some (vstr vl) := x5.holds (by rw [World.cell?_alloc_mark]; rfl)
      have x5' : Ext wr w5 := ((Ext.refl wr).alloc _).trans x5
      have F5 : Five w5 B vk (vstr plainB) (.slice none 0 0) (vstr []) (.slice none 0 0) := (HF.out).ext x5'
      have c5 := F5.cell0
      have own5 := ownsRow_ext x5' Ho.out
      have hB5 := F5.lt
      cases hm : isMimeB nm
      · have Hs2 : Hid (keptB (fs.take (k + 1)) = K ++ [(nm, vl)]) := Lib.hid (by rw [Hsn.out, hm]; rfl)
        have HF5 := Lib.hid F5
        clear F5 hm
        go_wp2_with (at_builtin; refine wpList_append1 w5 33 [vstr nm, vstr vl] rfl (.tmp 40) (.tmp 42) 23 rfl (B + 1) i0 (.agg #[.string ByteArray.empty, .string ByteArray.empty]) 2 32 Tryz.underlying23 hi hz0 hz1 hz2 rfl (by decide) _ _ _ rfl own5 _ rfl rfl (by simp [Value.oneCell']) (by omega) (by omega) (by omega) ?_; intro g cap w10 own10 hb10 _; have F10 : Five w10 B vk (vstr plainB) (.slice none 0 0) (vstr []) (.slice none 0 0) := (hb10.block B (by omega)).trans HF5.out; have c10 := F10.cell0; have f10 := F10.frozen 0)
        go_roundw
        case rel => exact ⟨k + 1, _, by omega, by go_num, F10.set0 _, by rw [Hs2.out]; simpa [pairCells_snoc] using ownsRow_setCell_below own10 (a := ⟨B, 0, none⟩) (by show B < _; omega) _, (((Hx.out).trans x5').upon (hb10.mono (by have := (Hx.out).size; have := x5'.size; rw [HB.out]; omega))).setCell (by show _ ≤ B; rw [HB.out]; exact Nat.le_refl _) _⟩
        case measure => simp [intOf]; omega
      · have Hs2 : Hid (keptB (fs.take (k + 1)) = K) := Lib.hid (by rw [Hsn.out, hm]; rfl)
        have HF5 := Lib.hid F5
        clear F5 hm
        go_wp2
        go_roundw
        case rel => exact ⟨k + 1, vk, by omega, by go_num, HF5.out, by rw [Hs2.out]; exact own5, (Hx.out).trans x5'⟩
        case measure => simp [intOf]; omega
    · obtain rfl : k = fs.length := by omega
      rw [List.take_length] at ho
      have hPk : Pairs0 wr vk (keptB fs) := Pairs0.of_owns ho
      obtain ⟨ka, kc, rfl⟩ := ownsRow_slice ho
      obtain ⟨kn, hkn2⟩ : ∃ kn, kn = (keptB fs).length := ⟨_, rfl⟩
      rw [← hkn2] at hPk F
      clear ho hkn2 F2 x2 hi hz0 hz1 hz2
      have hsh : Short fs := fun y hy => ⟨by have := (Hps.out y hy).1; omega, by have := (Hps.out y hy).2; omega⟩
      have hgl : (getB fs ctB).1.length ≤ s.length := getB_le (Hps.out)
      have hgl2 : (getB fs cteB).1.length ≤ s.length := getB_le (Hps.out)
      have hq := Hq.out
      rw [partB, ← Hfs.out, ← Hat.out] at hq
      obtain ⟨enc, henc⟩ : ∃ enc, enc = (getB fs cteB).1 := ⟨_, rfl⟩
      rw [← henc] at hq hgl2
      have Henc := Lib.hid henc
      clear henc
      cases hd : dec (s.drop at_) enc with
      | none => rw [hd] at hq; cases hq
      | some c =>
        rw [hd] at hq
        obtain ⟨hcl, hcall⟩ := Hdec.out (s.drop at_) enc c wr (by simp; omega) (by omega) hd
        have hcl2 : c.length ≤ s.length := by simp at hcl; omega
        have Hd := Lib.hid hd
        have Hq2 := Lib.hid hq
        have Hsh := Lib.hid hsh
        have HF := Lib.hid F
        have Hx := Lib.hid hx
        have HPk := Lib.hid hPk
        clear hd hq hcall hcl hsh F hx hPk
        go_wp2_with fail
        refine (get_l fs _ ctB _ (((Hpv.out).ext Hx.out).at) (by omega) Hsh.out (by decide)).mono ?_
        rintro e w6 ⟨rfl, x6⟩
        obtain ⟨val, hval⟩ : ∃ val, val = (getB fs ctB).1 := ⟨_, rfl⟩
        rw [← hval] at hgl ⊢
        have Hval := Lib.hid hval
        clear hval
        go_wp2_with fail
        refine (params_l val _ (by omega)).mono ?_
        rintro e w7 ⟨pv, rfl, hpp, x7⟩
        obtain ⟨pa, pn, pc, rfl⟩ : ∃ pa pn pc, pv = .slice pa pn pc := by
          rcases hpp with ⟨_, a, c, rfl⟩ | ⟨_, b, c, rfl, _⟩
          · exact ⟨_, _, _, rfl⟩
          · exact ⟨_, _, _, rfl⟩
        have hml := paramsB_len val
        have hpm2 : (paramsB val).2.length ≤ val.length + 1 := Nat.le_trans (paramsB_many val) (piecesB_le val).2
        obtain ⟨mn, hmn⟩ : ∃ mn, mn = (paramsB val).1 := ⟨_, rfl⟩
        obtain ⟨tp0, htp0⟩ : ∃ tp0, tp0 = (paramsB val).2 := ⟨_, rfl⟩
        rw [← hmn] at hml ⊢
        rw [← htp0] at hpp hpm2
        have Hmn := Lib.hid hmn
        have Htp0 := Lib.hid htp0
        clear hmn htp0
        go_wp2_with fail
        refine (lower_l mn _ (by omega)).mono ?_
        rintro e w8 ⟨rfl, x8⟩
        go_wp2_with fail
        have lml : (lowerB mn).length ≤ s.length := by rw [lowerB_length]; omega
        refine (formed_l (lowerB mn) _ (by omega)).mono ?_
        rintro e w9 ⟨rfl, x9⟩
        have x69 : Ext wr w9 := x6.trans (x7.trans (x8.trans x9))
        have F9' : Hid (Five w9 B (.slice ka kn kc) (vstr plainB) (.slice none 0 0) (vstr []) (.slice none 0 0)) := Lib.hid ((HF.out).ext x69)
        have X9' : Hid (Ext w1 w9) := Lib.hid ((Hx.out).trans x69)
        have Q9' : Hid (Pairs0 w9 (.slice ka kn kc) (keptB fs)) := Lib.hid ((HPk.out).ext x69)
        have P9' : Hid (Pairs0 w9 (.slice pa pn pc) tp0) := Lib.hid (hpp.ext (x8.trans x9))
        have R9' : Hid (Pairs0 w9 (.slice fa fs.length fc) fs) := Lib.hid ((Hpv.out).ext X9'.out)
        have HAB : Hid (w.heap.size < B) := Lib.hid (by have := (H6.out).lt; rw [HB.out]; exact this)
        clear x6 x7 x8 x9 x69 hpp HF Hx HPk
        cases hf : formedB (lowerB mn)
        case' false =>
          obtain ⟨ty, hty⟩ : ∃ ty, ty = plainB := ⟨_, rfl⟩
          obtain ⟨tps, htps⟩ : ∃ tps : List (List UInt8 × List UInt8), tps = [] := ⟨_, rfl⟩
          have Hty : Hid (ty = typeB fs) := Lib.hid (by rw [typeB, ← Hval.out, ← Hmn.out, hf]; exact hty)
          have Htp : Hid (tps = tparB fs) := Lib.hid (by rw [tparB, ← Hval.out, ← Hmn.out, hf]; exact htps)
          have htyl : ty.length ≤ 16777216 := by rw [hty]; decide
          have htpl : tps.length ≤ 16777217 := by rw [htps]; decide
          rw [← hty] at F9'
          go_wp2_with fail
          obtain ⟨W9, hW9⟩ : ∃ W9, W9 = w9 := ⟨_, rfl⟩
          obtain ⟨ta, hta⟩ : ∃ ta : Option Addr, ta = none := ⟨_, rfl⟩
          obtain ⟨tn, htn⟩ : ∃ tn : Nat, tn = 0 := ⟨_, rfl⟩
          obtain ⟨tc, htc⟩ : ∃ tc : Nat, tc = 0 := ⟨_, rfl⟩
          rw [← hW9]
          have F9 : Hid (Five W9 B (.slice ka kn kc) (vstr ty) (.slice ta tn tc) (vstr []) (.slice none 0 0)) := Lib.hid (by rw [hW9, hta, htn, htc]; exact F9'.out)
          have P9 : Hid (Pairs0 W9 (.slice ta tn tc) tps) := Lib.hid (by rw [hta, htn, htc, htps]; exact .inl ⟨rfl, _, _, rfl⟩)
          have Q9 : Hid (Pairs0 W9 (.slice ka kn kc) (keptB fs)) := Lib.hid (by rw [hW9]; exact Q9'.out)
          have R9 : Hid (Pairs0 W9 (.slice fa fs.length fc) fs) := Lib.hid (by rw [hW9]; exact R9'.out)
          have X9 : Hid (Ext w1 W9) := Lib.hid (by rw [hW9]; exact X9'.out)
          clear hW9 hta htn htc hty htps
        case' true =>
          obtain ⟨ty, hty⟩ : ∃ ty, ty = lowerB mn := ⟨_, rfl⟩
          obtain ⟨tps, htps⟩ : ∃ tps : List (List UInt8 × List UInt8), tps = tp0 := ⟨_, rfl⟩
          have Hty : Hid (ty = typeB fs) := Lib.hid (by rw [typeB, ← Hval.out, ← Hmn.out, hf]; exact hty)
          have Htp : Hid (tps = tparB fs) := Lib.hid (by rw [tparB, ← Hval.out, ← Hmn.out, hf, htps]; exact Htp0.out)
          have htyl : ty.length ≤ 16777216 := by rw [hty]; omega
          have htpl : tps.length ≤ 16777217 := by rw [htps]; omega
          go_wp2_with fail
          refine (lower_l mn _ (by omega)).mono ?_
          rintro e w10 ⟨rfl, x10⟩
          have F10 := (F9'.out).ext x10
          have c101 := F10.cell1
          have f101 := F10.frozen 1
          have c102 := F10.cell2
          have f102 := F10.frozen 2
          have HF10 := Lib.hid F10
          clear F10
          go_wp2_with fail
          obtain ⟨W9, hW9⟩ : ∃ W9, W9 = (w10.setCell ⟨B, 1, none⟩ (vstr (lowerB mn))).setCell ⟨B, 2, none⟩ (.slice pa pn pc) := ⟨_, rfl⟩
          obtain ⟨ta, hta⟩ : ∃ ta : Option Addr, ta = pa := ⟨_, rfl⟩
          obtain ⟨tn, htn⟩ : ∃ tn : Nat, tn = pn := ⟨_, rfl⟩
          obtain ⟨tc, htc⟩ : ∃ tc : Nat, tc = pc := ⟨_, rfl⟩
          rw [← hW9]
          have k1 : Keep (From (B + 1)) w10 W9 := by rw [hW9]; exact ((HF10.out).keep (notFrom B) _).trans (((HF10.out).set1 (vstr (lowerB mn))).keep (notFrom B) _)
          have F9 : Hid (Five W9 B (.slice ka kn kc) (vstr ty) (.slice ta tn tc) (vstr []) (.slice none 0 0)) := Lib.hid (by rw [hW9, hta, htn, htc, hty]; exact ((HF10.out).set1 _).set2 _)
          have P9 : Hid (Pairs0 W9 (.slice ta tn tc) tps) := Lib.hid (by rw [hta, htn, htc, htps]; exact ((P9'.out).ext x10).keep k1)
          have Q9 : Hid (Pairs0 W9 (.slice ka kn kc) (keptB fs)) := Lib.hid (((Q9'.out).ext x10).keep k1)
          have R9 : Hid (Pairs0 W9 (.slice fa fs.length fc) fs) := Lib.hid (((R9'.out).ext x10).keep k1)
          have X9 : Hid (Ext w1 W9) := Lib.hid (by rw [hW9]; exact ((((X9'.out).trans x10).setCell (by show _ ≤ B; rw [HB.out]; exact Nat.le_refl _) _).setCell (by show _ ≤ B; rw [HB.out]; exact Nat.le_refl _) _))
          clear hW9 hta htn htc hty htps k1 HF10 c101 f101 c102 f102 x10
        all_goals
          clear hf F9' X9' Q9' P9' R9' Hmn Htp0 hml hpm2 Hval
          refine (get_l fs _ cteB _ (R9.out).at (by omega) Hsh.out (by decide)).mono ?_
          rintro e w11 ⟨rfl, x11⟩
          rw [← Henc.out]
          have z0 : (0 : Int) ≤ at_ := by omega
          have z1 : (at_ : Int) ≤ s.length := by omega
          go_wp2_with fail
          rw [extract_dropL]
          refine ((Hdec.out (s.drop at_) enc c _ (by simp; omega) (by omega) Hd.out).2).mono ?_
          rintro e w12 ⟨rfl, x12⟩
          have x912 := x11.trans x12
          have F12 := (F9.out).ext x912
          have c121 := F12.cell1
          have HF12 := Lib.hid F12
          clear F12
          go_wp2_with fail
          refine (container_l ty _).mono ?_
          rintro e w13 ⟨rfl, x13⟩
          have F13 : Five w13 B (.slice ka kn kc) (vstr ty) (.slice ta tn tc) (vstr []) (.slice none 0 0) := (HF12.out).ext x13
          have X13 : Ext w1 w13 := (X9.out).trans (x912.trans x13)
          have FA : Five w13 w.heap.size (.slice none 0 0) (vstr []) (.slice none 0 0) (vstr []) (.slice none 0 0) := (H6.out).ext X13
          have hr13 : Boxed w13 r 37 (.int .i64 known) := Boxed.ext ((X1.out).trans X13) hr
          have P13 : Hid (Pairs0 w13 (.slice ta tn tc) tps) := Lib.hid ((P9.out).ext (x912.trans x13))
          have Q13 : Hid (Pairs0 w13 (.slice ka kn kc) (keptB fs)) := Lib.hid ((Q9.out).ext (x912.trans x13))
          have hrA : r < w.heap.size := hr.lt
          have hAB := HAB.out
          have O13 : Hid (Old w.heap.size [r] w w13) := Lib.hid (((Old.refl _ _ w).ext X1.out).ext X13)
          have b0 := F13.cell0
          have b1 := F13.cell1
          have b2 := F13.cell2
          have b3 := F13.cell3
          have b4 := F13.cell4
          have bf0 := F13.frozen 0
          have bf1 := F13.frozen 1
          have bf2 := F13.frozen 2
          have bf3 := F13.frozen 3
          have bf4 := F13.frozen 4
          have a0 := FA.cell0
          have a1 := FA.cell1
          have a2 := FA.cell2
          have a3 := FA.cell3
          have a4 := FA.cell4
          have af0 := FA.frozen 0
          have af1 := FA.frozen 1
          have af2 := FA.frozen 2
          have af3 := FA.frozen 3
          have af4 := FA.frozen 4
          have nAB : ¬ w.heap.size = B := by omega
          have nBA : ¬ B = w.heap.size := by omega
          have HF13 := Lib.hid F13
          have HFA := Lib.hid FA
          have Hr13 := Lib.hid hr13
          clear x11 x12 x13 x912 F13 FA X13 hr13 HF12 c121 P9 Q9 R9 X9 F9
          have hq2 := Hq2.out
          rw [← Hty.out, ← Htp.out] at hq2
          cases hct : containerB ty
          · rw [hct, if_neg Bool.false_ne_true] at hq2
            cases hq2
            clear hct Hq2 Hrec Hdec
            go_wp2
            obtain ⟨W14, hW14⟩ : ∃ W14, W14 = w13.setCell ⟨B, 3, none⟩ (vstr c) := ⟨_, rfl⟩
            obtain ⟨W15, hW15⟩ : ∃ W15, W15 = put5 W14 w.heap.size (.slice ka kn kc) (vstr ty) (.slice ta tn tc) (vstr c) (.slice none 0 0) := ⟨_, rfl⟩
            have FA14 : Five W14 w.heap.size (.slice none 0 0) (vstr []) (.slice none 0 0) (vstr []) (.slice none 0 0) := by rw [hW14]; exact (HFA.out).other nAB _ _
            have F15 : Five W15 w.heap.size (.slice ka kn kc) (vstr ty) (.slice ta tn tc) (vstr c) (.slice none 0 0) := by rw [hW15]; exact put5_five FA14 _ _ _ _ _
            have k1 : Keep (From (B + 1)) w13 W15 := by rw [hW15]; exact (show Keep (From (B + 1)) w13 W14 by rw [hW14]; exact (HF13.out).keep (notFrom B) _).trans (put5_keep FA14 (notFrom2 HAB.out))
            have r15 : Boxed W15 r 37 (.int .i64 known) := by rw [hW15]; exact put5_boxed _ _ _ _ _ (by rw [hW14]; exact boxed_other (Hr13.out) (by omega) _ _) (by omega)
            have o15 : Old w.heap.size [r] w W15 := by rw [hW15]; exact put5_old _ _ _ _ _ (by rw [hW14]; exact (O13.out).setCell (p := ⟨B, 3, none⟩) (.inr (show w.heap.size ≤ B by omega)) _) (by omega)
            rw [show ((((((w13.setCell ⟨B, 3, none⟩ (.string { data := c.toArray })).setCell ⟨w.heap.size, 0, none⟩ (.slice ka kn kc)).setCell ⟨w.heap.size, 1, none⟩ (.string { data := ty.toArray })).setCell ⟨w.heap.size, 2, none⟩ (.slice ta tn tc)).setCell ⟨w.heap.size, 3, none⟩ (.string { data := c.toArray })).setCell ⟨w.heap.size, 4, none⟩ (.slice none 0 0)) = W15 by rw [hW15, hW14]; rfl]
            have p15 := PartAt.of_parts (t := ty) (b := c) (S := From w.heap.size) ((Q13.out).keep k1) ((P13.out).keep k1) (PartsAt.nil W15 (From w.heap.size) none 0)
            have e0 := F15.cell0
            have e1 := F15.cell1
            have e2 := F15.cell2
            have e3 := F15.cell3
            have e4 := F15.cell4
            clear hW15 hW14
            refine bodyPost_ret (v := .agg #[.slice ka kn kc, vstr ty, .slice ta tn tc, vstr c, .slice none 0 0]) (by simp [results, Tryz.results10, go_sem, e0, e1, e2, e3, e4]) rfl ?_
            exact ⟨_, rfl, p15, r15, hkn, o15⟩
          · rw [hct, if_pos rfl] at hq2
            have dl := divideB_le ty tps c
            have dn := divideB_len ty tps c
            have dv := divide_l ka ta none kn tn 0 kc tc 0 ty [] c tps w13 P13.out (by omega) (by omega)
            obtain ⟨L, hL⟩ : ∃ L, L = (divideB ty tps c).1 := ⟨_, rfl⟩
            obtain ⟨RS, hRS⟩ : ∃ RS, RS = (divideB ty tps c).2 := ⟨_, rfl⟩
            rw [← hL, ← hRS] at hq2 dv
            rw [← hL] at dl dn
            have Dl := Lib.hid dl
            have Dv := Lib.hid dv
            have Hq3 := Lib.hid hq2
            clear dl dv hL hRS hq2 Hq2 hct Hdec
            go_wp2_with fail
            refine (Dv.out).mono ?_
            rintro e w14 ⟨v1, v2, rfl, hs1, hp2, x14⟩
            obtain ⟨la, lc, rfl⟩ := strs_slice hs1
            obtain ⟨ra, rn, rc, rfl⟩ := pairs_slice hp2
            have HF14 : Hid (Five w14 B (.slice ka kn kc) (vstr ty) (.slice ta tn tc) (vstr []) (.slice none 0 0)) := Lib.hid ((HF13.out).ext x14)
            have HFA14 : Hid (Five w14 w.heap.size (.slice none 0 0) (vstr []) (.slice none 0 0) (vstr []) (.slice none 0 0)) := Lib.hid ((HFA.out).ext x14)
            have hr14 := Boxed.ext x14 Hr13.out
            have Q14 : Hid (Pairs0 w14 (.slice ka kn kc) (keptB fs)) := Lib.hid ((Q13.out).ext x14)
            have O14 : Hid (Old w.heap.size [r] w w14) := Lib.hid ((O13.out).ext x14)
            have HS1 := Lib.hid hs1
            have HP2 := Lib.hid hp2
            clear b0 b1 b2 b3 b4 bf0 bf1 bf2 bf3 bf4 a0 a1 a2 a3 a4 af0 af1 af2 af3 af4 HF13 HFA Hr13 P13 Q13 O13 x14 hs1 hp2 Dv
            have b0 := (HF14.out).cell0
            have rc0 := hr14.cell
            have rf0 := hr14.frozen
            have a0 := (HFA14.out).cell0
            have a1 := (HFA14.out).cell1
            have a2 := (HFA14.out).cell2
            have a3 := (HFA14.out).cell3
            have a4 := (HFA14.out).cell4
            have af0 := (HFA14.out).frozen 0
            have af1 := (HFA14.out).frozen 1
            have af2 := (HFA14.out).frozen 2
            have af3 := (HFA14.out).frozen 3
            have af4 := (HFA14.out).frozen 4
            by_cases hg : L = [] ∨ 40 ≤ level ∨ 300 < known + L.length
            · have hq3 := Hq3.out
              rw [if_pos hg] at hq3
              cases hq3
              clear Hq3
              have hlc : (L.length = 0) ∨ (L.length ≠ 0 ∧ 40 ≤ level) ∨ (L.length ≠ 0 ∧ level < 40 ∧ 300 < known + L.length) := by
                rcases hg with h | h | h
                · exact .inl (by rw [h]; rfl)
                · by_cases h0 : L.length = 0
                  · exact .inl h0
                  · exact .inr (.inl ⟨h0, h⟩)
                · by_cases h0 : L.length = 0
                  · exact .inl h0
                  · by_cases h1 : 40 ≤ level
                    · exact .inr (.inl ⟨h0, h1⟩)
                    · exact .inr (.inr ⟨h0, by omega, h⟩)
              obtain ⟨W15, hW15⟩ : ∃ W15, W15 = put5 w14 w.heap.size (.slice ka kn kc) (vstr octB) (.slice none 0 0) (vstr c) (.slice none 0 0) := ⟨_, rfl⟩
              have F15 : Five W15 w.heap.size (.slice ka kn kc) (vstr octB) (.slice none 0 0) (vstr c) (.slice none 0 0) := by rw [hW15]; exact put5_five HFA14.out _ _ _ _ _
              have k1 : Keep (From (B + 1)) w14 W15 := by rw [hW15]; exact put5_keep HFA14.out (notFrom2 HAB.out)
              have r15 : Boxed W15 r 37 (.int .i64 known) := by rw [hW15]; exact put5_boxed _ _ _ _ _ hr14 (by omega)
              have o15 : Old w.heap.size [r] w W15 := by rw [hW15]; exact put5_old _ _ _ _ _ O14.out (by omega)
              have p15 := PartAt.of_parts (t := octB) (b := c) (S := From w.heap.size) ((Q14.out).keep k1) (p := []) (.inl ⟨rfl, none, 0, rfl⟩) (PartsAt.nil W15 (From w.heap.size) none 0)
              have e0 := F15.cell0
              have e1 := F15.cell1
              have e2 := F15.cell2
              have e3 := F15.cell3
              have e4 := F15.cell4
              have PartEnd : ∀ tm : Array Value, tm[6]? = some (.pointer (some ⟨w.heap.size, 0, none⟩)) → bodyPost Tryz.prog Tryz.f10 (fun e w' => ∃ v, e = .returned v ∧ PartAt w' (From w.heap.size) (PartT.mk (keptB fs) octB [] c []) v ∧ Boxed w' r 37 (.int .i64 known) ∧ known ≤ 300 ∧ Old w.heap.size [r] w w') .ret { tmps := tm, defers := [] } W15 := by
                intro tm ht
                refine bodyPost_ret (v := .agg #[.slice ka kn kc, vstr octB, .slice none 0 0, vstr c, .slice none 0 0]) ?_ rfl ⟨_, rfl, p15, r15, hkn, o15⟩
                simp [results, Tryz.results10, go_sem, e0, e1, e2, e3, e4, ht]
              rw [hW15] at PartEnd
              clear hW15 e0 e1 e2 e3 e4 F15 k1 r15 o15 p15
              rcases hlc with h0 | ⟨h0, h1⟩ | ⟨h0, h1, h2⟩
              · have g1 : ((L.length : Int) == 0) = true := by rw [beq_iff_eq]; omega
                have g1' : decide ((L.length : Int) = 0) = true := by rw [decide_eq_true_eq]; omega
                go_wp2
                exact PartEnd _ rfl
              · have g1 : ((L.length : Int) == 0) = false := by rw [beq_eq_false_iff_ne]; omega
                have g1' : decide ((L.length : Int) = 0) = false := by rw [decide_eq_false_iff_not]; omega
                have g2 : decide (40 ≤ (level : Int)) = true := by rw [decide_eq_true_eq]; omega
                go_wp2
                exact PartEnd _ rfl
              · have g1 : ((L.length : Int) == 0) = false := by rw [beq_eq_false_iff_ne]; omega
                have g1' : decide ((L.length : Int) = 0) = false := by rw [decide_eq_false_iff_not]; omega
                have g2 : decide (40 ≤ (level : Int)) = false := by rw [decide_eq_false_iff_not]; omega
                have g3 : decide (300 < (known : Int) + (L.length : Int)) = true := by rw [decide_eq_true_eq]; omega
                go_wp2
                exact PartEnd _ rfl
            · have hL0 : L ≠ [] := fun h => hg (.inl h)
              have hL1 : L.length ≠ 0 := fun h => hL0 (List.length_eq_zero_iff.1 h)
              have hlv : level < 40 := Nat.lt_of_not_le fun h => hg (.inr (.inl h))
              have hkl : known + L.length ≤ 300 := Nat.le_of_not_lt fun h => hg (.inr (.inr h))
              have hq3 := Hq3.out
              rw [if_neg hg] at hq3
              cases hpw : partsWith (fun s k => partB dec n s (level + 1) k) L (known + L.length) with
              | none => rw [hpw] at hq3; cases hq3
              | some QK =>
                obtain ⟨QS, K2⟩ := QK
                rw [hpw] at hq3
                cases hq3
                have Hpw := Lib.hid hpw
                clear hpw Hq3 hg hL0
                have g1 : ((L.length : Int) == 0) = false := by rw [beq_eq_false_iff_ne]; omega
                have g1' : decide ((L.length : Int) = 0) = false := by rw [decide_eq_false_iff_not]; omega
                have g2 : decide (40 ≤ (level : Int)) = false := by rw [decide_eq_false_iff_not]; omega
                have g3 : decide (300 < (known : Int) + (L.length : Int)) = false := by rw [decide_eq_false_iff_not]; omega
                have b2 := (HF14.out).cell2
                have b3 := (HF14.out).cell3
                have b4 := (HF14.out).cell4
                have bf2 := (HF14.out).frozen 2
                have nrB : ¬ r = B := by omega
                have nBr : ¬ B = r := by omega
                go_wp2
                obtain ⟨W16, hW16⟩ : ∃ W16, W16 = (w14.setCell ⟨B, 2, none⟩ (.slice ra rn rc)).setCell ⟨r, 0, none⟩ (.int .i64 (known + L.length)) := ⟨_, rfl⟩
                rw [← hW16]
                have F15 := (HF14.out).set2 (.slice ra rn rc)
                have r15 : Boxed (w14.setCell ⟨B, 2, none⟩ (.slice ra rn rc)) r 37 (.int .i64 known) := boxed_other hr14 nrB _ _
                have k16 : Keep (From (B + 1)) w14 W16 := by rw [hW16]; exact ((HF14.out).keep (notFrom B) _).trans (keep_num_set r15 _)
                have I0 : LInv (fun s k => partB dec n s (level + 1) k) w r B L (keptB fs) RS ty ka la ra kn kc L.length lc rn rc QS k2 0 (known + L.length) [] QS none 0 0 [] W16 :=
                  { pw := Hpw.out, eq := rfl, len := rfl, k300 := hkl, five := by rw [hW16]; exact F15.other nBr _ _, own := World.ownsRow_nil _ _ _ _, first := fun _ => rfl, cells := by simp only [CellsAt]
                    box := by rw [hW16, Int.natCast_add]; exact Boxed.set _ r15
                    old := by rw [hW16]; exact ((O14.out).setCell (p := ⟨B, 2, none⟩) (.inr (show w.heap.size ≤ B by omega)) _).setCell (p := ⟨r, 0, none⟩) (.inl (by simp)) _
                    strs := (HS1.out).keep k16, pk := (Q14.out).keep k16, pr := (HP2.out).keep k16
                    fa := by rw [hW16]; exact ((HFA14.out).other nAB _ _).other (by omega) _ _ }
                have HI0 := Lib.hid I0
                clear I0 k16 r15 F15 hW16 rc0 rf0 b0 a0 a1 a2 a3 a4 af0 af1 af2 af3 af4 b2 b3 b4 bf2 HF14 HFA14 hr14 Q14 O14 HS1 HP2 Hpw
                obtain ⟨i1, hi, hz0, hz1, hz2⟩ := info_parts Tryz.info27
                go_loopw [121] (fun i wr => ∃ (j k : Nat) (qs rest : List PartT) (va : Option Addr) (vn vc : Nat) (xs : List Value), j ≤ L.length ∧ i = .int .i64 j ∧ LInv (fun s k => partB dec n s (level + 1) k) w r B L (keptB fs) RS ty ka la ra kn kc L.length lc rn rc QS k2 j k qs rest va vn vc xs wr)
                    (fun i _ => L.length - (intOf i).toNat)
                case atStart => exact ⟨0, _, _, _, _, _, _, _, Nat.zero_le _, rfl, HI0.out⟩
                case round =>
                  obtain ⟨j, k, qs, rest, va, vn, vc, xs, hj, rfl, hI⟩ := hrel
                  by_cases hlt2 : j < L.length
                  · have hpw := hI.pw
                    have hdr : L.drop j = L[j] :: L.drop (j + 1) := List.drop_eq_getElem_cons hlt2
                    rw [hdr] at hpw
                    simp only [partsWith] at hpw
                    obtain ⟨sj, hsj⟩ : ∃ sj, sj = L[j] := ⟨_, rfl⟩
                    rw [← hsj] at hpw
                    have hsjl : sj.length ≤ 16777216 := by have := Dl.out L[j] (List.getElem_mem hlt2); rw [hsj]; omega
                    rcases hI.strs with ⟨h0, _⟩ | ⟨hne, sb, sc, he, hcl, hcells⟩
                    · rw [h0] at hlt2; simp at hlt2
                    cases he
                    have d1 := hcells j hlt2
                    rw [← hsj] at d1
                    cases hq1 : partB dec n sj (level + 1) k with
                    | none => rw [hq1] at hpw; cases hpw
                    | some qk =>
                      obtain ⟨q1, k1⟩ := qk
                      rw [hq1] at hpw
                      dsimp only at hpw
                      cases hq2 : partsWith (fun s k => partB dec n s (level + 1) k) (L.drop (j + 1)) k1 with
                      | none => rw [hq2] at hpw; cases hpw
                      | some rk =>
                        obtain ⟨rest1, K3⟩ := rk
                        rw [hq2] at hpw
                        cases hpw
                        have Ih : Hid (∀ W : World, Boxed W r 37 (.int .i64 k) → Calls Tryz.prog 10 #[.pointer (some ⟨r, 0, none⟩), vstr sj, .int .i64 (IntKind.i64.wrap ((level : Int) + 1))] W fun e w' => ∃ v, e = .returned v ∧ PartAt w' (From W.heap.size) q1 v ∧ Boxed w' r 37 (.int .i64 k1) ∧ k1 ≤ 300 ∧ Old W.heap.size [r] W w') := Lib.hid fun W hb => by
                          have := Hrec.out sj (level + 1) k q1 k1 hq1 hsjl (by omega) hI.k300 r W hb
                          rw [show ((level + 1 : Nat) : Int) = (level : Int) + 1 by omega] at this
                          rw [wrap_small (by omega)]
                          exact this
                        have HI := Lib.hid hI
                        have Hq5 := Lib.hid hq2
                        have F := hI.five
                        have b4 := F.cell4
                        have hql : qs.length ≤ 16777218 := by have := hI.len; omega
                        have mixed : Tryz.prog.follows .mixedOrders = true := by kernel_rfl
                        clear hI hq1 hq2 hcells hsj hdr F hne
                        go_wp2
                        go_region_law (first
                          | (refine step_append_lies _ rfl (.tmp 126) (.tmp 132) 25 rfl (B + 1) 27 i1 (.agg #[.slice none 0 0, .string ByteArray.empty, .slice none 0 0, .string ByteArray.empty, .slice none 0 0]) 5 104 Tryz.underlying25 hi hz0 hz1 hz2 rfl (by decide) _ _ _ rfl (own4.alloc _) ⟨w4.heap.size, 0, none⟩ 1 1 [.slice xf0 nf0 cf0, vstr q1.t, .slice xp0 np0 cp0, vstr q1.b, .slice xq0 nq0 cq0] rfl rfl (by intro j u hj; rw [addr_add0, World.cell?_alloc_mark]; simpa using hj) (by simp [Value.oneCell']) (by decide) (by unfold maxLen; omega) (by omega) (by simp; omega) (w4.heap.size + 1) (by simp) ?_; intro g' cap' w5 hown5 hgrow hat hlt5; obtain ⟨F5, INext⟩ := Next g' cap' w5 hown5 hgrow hat; have b44 := F5.cell4; have f44 := F5.frozen 4)
                          | (go_simp; go_at_call 10; refine (Ih.out wr.drew (show Boxed wr.drew r 37 (.int .i64 k) from (HI.out).box)).mono ?_; rintro e w4 ⟨v4, rfl, hp4, hr4, hk4, ho4⟩; obtain ⟨xf0, nf0, cf0, xp0, np0, cp0, xq0, nq0, cq0, rfl, _, _, _⟩ := hp4.open; obtain ⟨F4, own4, hsz4, Next⟩ := (HI.out).called hrA hAB ⟨ho4.os, ho4.tape, ho4.output, ho4.size, ho4.block⟩ hr4 hk4 Hq5.out rfl hp4; have c44 := F4.cell4; have c44a := (Ext.alloc (Ext.refl w4) (.cells #[.slice xf0 nf0 cf0, vstr q1.t, .slice xp0 np0 cp0, vstr q1.b, .slice xq0 nq0 cq0] 27)).holds c44))
                        all_goals
                          go_wp2
                          go_roundw
                          case rel => exact ⟨j + 1, k1, qs ++ [q1], rest1, _, _, _, _, by omega, by go_num, INext⟩
                          case measure => simp [intOf]; omega
                  · obtain rfl : j = L.length := by omega
                    have hpw := hI.pw
                    rw [List.drop_length] at hpw
                    cases hpw
                    have hQ := hI.eq
                    rw [List.append_nil] at hQ
                    have F := hI.five
                    have FA := hI.fa
                    have b0 := F.cell0
                    have b1 := F.cell1
                    have b2 := F.cell2
                    have b3 := F.cell3
                    have b4 := F.cell4
                    have a0 := FA.cell0
                    have a1 := FA.cell1
                    have a2 := FA.cell2
                    have a3 := FA.cell3
                    have a4 := FA.cell4
                    have af0 := FA.frozen 0
                    have af1 := FA.frozen 1
                    have af2 := FA.frozen 2
                    have af3 := FA.frozen 3
                    have af4 := FA.frozen 4
                    obtain ⟨W15, hW15⟩ : ∃ W15, W15 = put5 wr w.heap.size (.slice ka kn kc) (vstr ty) (.slice ra rn rc) (vstr []) (.slice va vn vc) := ⟨_, rfl⟩
                    have F15 : Five W15 w.heap.size (.slice ka kn kc) (vstr ty) (.slice ra rn rc) (vstr []) (.slice va vn vc) := by rw [hW15]; exact put5_five FA _ _ _ _ _
                    have k1 : Keep (From (B + 1)) wr W15 := by rw [hW15]; exact put5_keep FA (notFrom2 HAB.out)
                    have r15 : Boxed W15 r 37 (.int .i64 k2) := by rw [hW15]; exact put5_boxed _ _ _ _ _ hI.box (by omega)
                    have o15 : Old w.heap.size [r] w W15 := by rw [hW15]; exact put5_old _ _ _ _ _ hI.old (by omega)
                    have hps2 : PartsAt W15 (From w.heap.size) qs (.slice va vn vc) := by
                      have h1 := PartsAt.of_owns (S := From (B + 1)) hI.own (CellsAt.mono (fun b _ hb => hb.1) _ _ hI.cells) (fun b hb => hb)
                      have h2 := PartsAt.keep k1 h1
                      exact PartsAt.mono (fun b _ hb => by have : B + 1 ≤ b := hb; show w.heap.size ≤ b; omega) h2
                    have p15 := PartAt.of_parts (t := ty) (b := []) (S := From w.heap.size) (hI.pk.keep k1) (hI.pr.keep k1) hps2
                    have e0 := F15.cell0
                    have e1 := F15.cell1
                    have e2 := F15.cell2
                    have e3 := F15.cell3
                    have e4 := F15.cell4
                    have k300 := hI.k300
                    have PartEnd : ∀ tm : Array Value, tm[6]? = some (.pointer (some ⟨w.heap.size, 0, none⟩)) → bodyPost Tryz.prog Tryz.f10 (fun e w' => ∃ v, e = .returned v ∧ PartAt w' (From w.heap.size) (PartT.mk (keptB fs) ty RS [] QS) v ∧ Boxed w' r 37 (.int .i64 k2) ∧ k2 ≤ 300 ∧ Old w.heap.size [r] w w') .ret { tmps := tm, defers := [] } W15 := by
                      intro tm ht
                      refine bodyPost_ret (v := .agg #[.slice ka kn kc, vstr ty, .slice ra rn rc, vstr [], .slice va vn vc]) ?_ rfl ⟨_, rfl, by rw [hQ]; exact p15, r15, k300, o15⟩
                      simp [results, Tryz.results10, go_sem, e0, e1, e2, e3, e4, ht]
                    rw [hW15] at PartEnd
                    clear hW15 e0 e1 e2 e3 e4 F15 k1 r15 o15 p15 hps2 hI F FA hQ
                    go_wp2
                    exact PartEnd _ rfl

theorem part_any (dec : List UInt8 → List UInt8 → Option (List UInt8))
    (hdec : ∀ l e c w, l.length ≤ 16777216 → e.length ≤ 16777216 → dec l e = some c → c.length ≤ l.length ∧ Calls Tryz.prog 20 #[vstr l, vstr e] w fun r w' => r = .returned (vstr c) ∧ Ext w w') :
    ∀ (n : Nat) s level known q k2, partB dec n s level known = some (q, k2) → s.length ≤ 16777216 → level ≤ 40 → known ≤ 300 → ∀ r w, Boxed w r 37 (.int .i64 known) →
      Calls Tryz.prog 10 #[.pointer (some ⟨r, 0, none⟩), vstr s, .int .i64 level] w fun e w' => ∃ v, e = .returned v ∧ PartAt w' (From w.heap.size) q v ∧ Boxed w' r 37 (.int .i64 k2) ∧ k2 ≤ 300 ∧ Old w.heap.size [r] w w' := by
  intro n
  induction n with
  | zero => intro s level known q k2 hq; cases hq
  | succ n ih => intro s level known q k2 hq hs hlev hkn r w hr; exact part_step dec n hdec ih s level known q k2 hq hs hlev hkn r w hr
end Go.Proofs.YtdjcjkpodggdpaaGreatDoor
