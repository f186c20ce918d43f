/- The contracts once more, over lists of bytes. -/
import Derived.Test.YtdjcjkpodggdpaaGreatDoorAParams
import Derived.Test.YtdjcjkpodggdpaaGreatDoorRange
namespace Go.Proofs.YtdjcjkpodggdpaaGreatDoor
open Go.RowKit

theorem cut_l (l : List UInt8) (c : UInt8) (w : World) (h : l.length ≤ 1073741824) :
    Calls Tryz.prog 27 #[vstr l, .string ⟨#[c]⟩] w fun e w' => e = .returned (.tuple #[vstr (cut1 c l).1, vstr (cut1 c l).2.1, .bool (cut1 c l).2.2]) ∧ Ext w w' := cut_one ⟨l.toArray⟩ c w (le_maxLen h)
/-- A slice of pairs of strings that begins with its block. -/
def Pairs0 (W : World) (v : Value) (l : List (List UInt8 × List UInt8)) : Prop :=
  (l = [] ∧ ∃ a c, v = .slice a 0 c) ∨ (l ≠ [] ∧ ∃ b c, v = .slice (some ⟨b, 0, none⟩) l.length c ∧ l.length ≤ c ∧
    ∀ i (hi : i < l.length), W.cell? ⟨b, i * 2, none⟩ = some (vstr l[i].1) ∧ W.cell? ⟨b, i * 2 + 1, none⟩ = some (vstr l[i].2))
theorem Pairs0.at {W : World} {v : Value} {l : List (List UInt8 × List UInt8)} (h : Pairs0 W v l) : PairsAt W v l := by
  rcases h with h | ⟨hne, b, c, rfl, hc, hcells⟩
  · exact .inl h
  · exact .inr ⟨hne, b, 0, c, rfl, hc, by simpa using hcells⟩
theorem Pairs0.ext {a b : World} (h : Ext a b) {v : Value} {l : List (List UInt8 × List UInt8)} (k : Pairs0 a v l) : Pairs0 b v l := by
  rcases k with k | ⟨hne, bl, c, rfl, hc, hcells⟩
  · exact .inl k
  · exact .inr ⟨hne, bl, c, rfl, hc, fun i hi => ⟨h.holds (hcells i hi).1, h.holds (hcells i hi).2⟩⟩
theorem Pairs0.of_owns {W : World} {base : Nat} {e : TypeId} {v : Value} {l : List (List UInt8 × List UInt8)} (h : W.ownsRow base e 2 v l.length (pairCells l)) : Pairs0 W v l := by
  by_cases hl : l = []
  · subst hl
    rcases h.2 with ⟨rfl, _⟩ | ⟨g, cap, cur, rfl, _⟩
    · exact .inl ⟨rfl, _, _, rfl⟩
    · exact .inl ⟨rfl, _, _, rfl⟩
  · rcases h.2 with ⟨_, h0⟩ | ⟨g, cap, cur, hv, hb, hg, hn, _⟩
    · exact absurd (List.length_eq_zero_iff.1 h0) hl
    · subst hv
      refine .inr ⟨hl, g, cap, rfl, hn, fun i hi => ?_⟩
      obtain ⟨h1, h2⟩ := pairCells_at l i hi
      rw [World.ownsRow.cellAt h (i * 2) (by omega), World.ownsRow.cellAt h (i * 2 + 1) (by omega)]
      exact ⟨h1, h2⟩
theorem trim_l (l : List UInt8) (w : World) (h : l.length ≤ 1073741824) :
    Calls Tryz.prog 28 #[vstr l] w fun e w' => e = .returned (vstr (trimB l)) ∧ Ext w w' := trim_any ⟨l.toArray⟩ w (le_maxLen h)
theorem lower_l (l : List UInt8) (w : World) (h : l.length ≤ 1073741824) :
    Calls Tryz.prog 19 #[vstr l] w fun e w' => e = .returned (vstr (lowerB l)) ∧ Ext w w' := lower_any ⟨l.toArray⟩ w (le_maxLen h)
theorem same_l (l m : List UInt8) (w : World) (h : l.length ≤ 1073741824) (h' : m.length ≤ 1073741824) :
    Calls Tryz.prog 30 #[vstr l, vstr m] w fun e w' => e = .returned (.bool (sameB l m)) ∧ Ext w w' := same_any ⟨l.toArray⟩ ⟨m.toArray⟩ w (le_maxLen h) (le_maxLen h')
theorem unquoted_l (l : List UInt8) (w : World) (h : l.length ≤ 1073741824) :
    Calls Tryz.prog 34 #[vstr l] w fun e w' => e = .returned (.tuple #[vstr (unqB l).1, .bool (unqB l).2]) ∧ Ext w w' := unquoted_any ⟨l.toArray⟩ w h
theorem token_l (l : List UInt8) (w : World) (h : l.length ≤ 1073741824) :
    Calls Tryz.prog 35 #[vstr l] w fun e w' => e = .returned (.bool (tokenB l)) ∧ Ext w w' := token_any ⟨l.toArray⟩ w h
theorem named_l (l : List UInt8) (w : World) (h : l.length ≤ 1073741824) :
    Calls Tryz.prog 29 #[vstr l] w fun e w' => e = .returned (.bool (namedB l)) ∧ Ext w w' := named_any ⟨l.toArray⟩ w (le_maxLen h)
theorem pieces_l (l : List UInt8) (w : World) (h : l.length ≤ 1073741824) :
    Calls Tryz.prog 33 #[vstr l] w fun e w' => ∃ v, e = .returned v ∧ StrsAt w' v (piecesB l) ∧ Ext w w' := pieces_any ⟨l.toArray⟩ w h
theorem get_l (f : List (List UInt8 × List UInt8)) (v : Value) (l : List UInt8) (w : World) (hv : PairsAt w v f) (hl : f.length ≤ 1073741824) (hsh : Short f) (hs : l.length ≤ 1073741824) :
    Calls Tryz.prog 16 #[v, vstr l] w fun e w' => e = .returned (.tuple #[vstr (getB f l).1, .bool (getB f l).2]) ∧ Ext w w' := get_any f v ⟨l.toArray⟩ w hv hl hsh hs
theorem unqGo_len : ∀ (n : Nat) (l acc : List UInt8), l.length ≤ n → (unqGo l acc).1.length ≤ acc.length + l.length := by
  intro n
  induction n with
  | zero =>
    intro l acc h
    obtain rfl := List.length_eq_zero_iff.1 (Nat.le_zero.1 h)
    simp [unqGo.eq_def]
  | succ n ih =>
    intro l acc h
    cases l with
    | nil => simp [unqGo.eq_def]
    | cons c t =>
      rw [unqGo.eq_def]
      simp only []
      simp only [List.length_cons] at h ⊢
      split
      · simp only []; omega
      · cases t with
        | nil => have := ih [] (acc ++ [c]) (by simp); simp only [List.length_append, List.length_cons, List.length_nil] at this ⊢; omega
        | cons x t' =>
          simp only [List.length_cons] at h ⊢
          split
          · have := ih t' (acc ++ [x]) (by omega)
            simp only [List.length_append, List.length_cons, List.length_nil] at this; omega
          · have := ih (x :: t') (acc ++ [c]) (by simp only [List.length_cons]; omega)
            simp only [List.length_append, List.length_cons, List.length_nil] at this; omega
theorem unqB_len (l : List UInt8) : (unqB l).1.length ≤ l.length := by
  unfold unqB
  split
  · have := unqGo_len _ (l.drop 1) [] (Nat.le_refl _)
    simp only [List.length_nil, List.length_drop] at this
    omega
  · exact Nat.le_refl _
theorem cell_new (w : World) (v : Value) (t : TypeId) : (w.alloc (.cells #[v] t)).cell? ⟨w.heap.size, 0, none⟩ = some v := by rw [World.cell?_alloc_mark]; rfl

theorem Tryz.info75 : (Tryz.prog.info? 75).map (fun i => (i.zero, i.size, i.bytes)) = some (some (.agg #[.string ByteArray.empty, .string ByteArray.empty]), 2, 32) := by kernel_rfl

theorem take_foldl_snoc {α β : Type} (f : β → α → β) (b : β) (l : List α) (k : Nat) (h : k < l.length) : (l.take (k + 1)).foldl f b = f ((l.take k).foldl f b) l[k] := by
  rw [List.take_succ_eq_append_getElem h, List.foldl_append]; rfl

set_option maxHeartbeats 1000000 in
set_option maxRecDepth 100000 in
theorem params_l (l : List UInt8) (w : World) (hs : l.length ≤ 536870912) :
    Calls Tryz.prog 17 #[vstr l] w fun e w' => ∃ v, e = .returned (.tuple #[vstr (paramsB l).1, v]) ∧ Pairs0 w' v (paramsB l).2 ∧ Ext w w' := by
  obtain ⟨i0, hi, hz0, hz1, hz2⟩ := info_parts Tryz.info75
  obtain ⟨hple, hpn⟩ := piecesB_le l
  have hne := piecesB_ne l
  unfold paramsB
  obtain ⟨ps, hps⟩ : ∃ ps, ps = piecesB l := ⟨_, rfl⟩
  rw [← hps] at hple hpn hne ⊢
  cases ps with
  | nil => exact absurd rfl hne
  | cons p0 rest =>
  have Hps := Lib.hid hps
  have h0 : p0.length ≤ l.length := hple p0 (by simp)
  have hrn : rest.length ≤ l.length := by simpa using hpn
  have Hple : Hid (∀ p ∈ rest, p.length ≤ l.length) := Lib.hid fun p hp => hple p (List.mem_cons_of_mem _ hp)
  clear hps hple hne hpn
  simp only [List.headD_cons, List.drop_succ_cons, List.drop_zero]
  go_enter Tryz.func17, Tryz.ntmps17
  go_wp2_with fail
  refine (pieces_l l _ (by omega)).mono ?_
  rintro e w1 ⟨v, rfl, hv, x1⟩
  rw [← Hps.out] at hv
  rcases hv with ⟨h0, _⟩ | ⟨_, b, o, c, rfl, hc, hcells⟩
  · exact absurd h0 (by simp)
  have hb0 := hcells 0 (by simp)
  have hb1 : b < w1.heap.size := lt_of_cell hb0
  simp only [List.getElem_cons_zero, Nat.add_zero] at hb0
  have Hcells : Hid (∀ k (hk : k < rest.length), w1.cell? ⟨b, o + 1 + k, none⟩ = some (vstr rest[k])) := Lib.hid fun k hk => by
    have := hcells (k + 1) (by simpa using hk)
    simpa [Nat.add_assoc, Nat.add_comm 1 k] using this
  simp only [List.length_cons] at hc
  clear hcells
  by_cases hc1 : c = 1
  · obtain rfl : rest = [] := List.length_eq_zero_iff.1 (by omega)
    subst hc1
    go_wp2
    refine wp_loop_rounds 1 ?_
    rw [rounds_succ]
    go_wp2_with (go_at_call 28; refine (trim_l p0 _ (by omega)).mono ?_; rintro e w2 ⟨rfl, x2⟩)
    go_ret2
    exact ⟨_, rfl, .inl ⟨rfl, _, _, rfl⟩, x1.trans x2⟩
  · have c1 : (1 : Int) ≤ rest.length + 1 := by omega
    have c2 : (1 : Int) ≤ c := by omega
    have c3 : (rest.length + 1 : Int) ≤ c := by omega
    have c4 : ¬ (c : Int) = 1 := by omega
    go_wp2
    go_loopw [5, 19] (fun v i wr => ∃ (k : Nat) (out : List (List UInt8 × List UInt8)), k ≤ rest.length ∧ i = .int .i64 k ∧ out.length ≤ k ∧ wr.ownsRow w1.heap.size 75 2 v out.length (pairCells out) ∧ Ext w1 wr ∧
      out = (rest.take k).foldl paramStep [])
      (fun _ i _ => rest.length - (intOf i).toNat)
    case atStart => exact ⟨0, [], Nat.zero_le _, rfl, by simp, World.ownsRow_nil _ _ _ _, Ext.refl _, rfl⟩
    case round =>
      obtain ⟨k, out, hk, rfl, hon, hown, hx, hout⟩ := hrel
      have Hout := Lib.hid hout
      clear hout
      by_cases hlt : k < rest.length
      · have d1 := hx.holds (Hcells.out k hlt)
        have hpl : rest[k].length ≤ l.length := Hple.out _ (List.getElem_mem hlt)
        obtain ⟨p, hp⟩ : ∃ p, p = rest[k] := ⟨_, rfl⟩
        rw [← hp] at d1 hpl
        have Hp := Lib.hid hp
        clear hp
        have b1 := cut1_len1 61 p
        have b2 := cut1_len2 61 p
        have b3 := trimB_len (cut1 61 p).1
        have b4 := trimB_len (cut1 61 p).2.1
        have b5 := unqB_len (trimB (cut1 61 p).2.1)
        have b6 : (lowerB (trimB (cut1 61 p).1)).length ≤ p.length := by rw [lowerB_length]; omega
        go_wp2_with fail
        refine (cut_l p 61 _ (by omega)).mono ?_
        rintro e w2 ⟨rfl, x2⟩
        go_wp2_with fail
        refine (trim_l (cut1 61 p).1 _ (by omega)).mono ?_
        rintro e w3 ⟨rfl, x3⟩
        go_wp2_with fail
        refine (lower_l (trimB (cut1 61 p).1) _ (by omega)).mono ?_
        rintro e w4 ⟨rfl, x4⟩
        go_wp2_with fail
        obtain ⟨nm, hnm⟩ : ∃ nm, nm = lowerB (trimB (cut1 61 p).1) := ⟨_, rfl⟩
        rw [← hnm] at b6 ⊢
        have Hnm := Lib.hid hnm
        clear hnm
        have x5 : Ext w4 (w4.alloc (.cells #[.string ⟨nm.toArray⟩] 9)) := (Ext.refl w4).alloc _
        have nc : (w4.alloc (.cells #[.string ⟨nm.toArray⟩] 9)).cell? ⟨w4.heap.size, 0, none⟩ = some (vstr nm) := cell_new _ _ _
        obtain ⟨w5, hw5⟩ : ∃ w5, w5 = w4.alloc (.cells #[.string ⟨nm.toArray⟩] 9) := ⟨_, rfl⟩
        rw [← hw5] at nc x5 ⊢
        clear hw5
        refine (trim_l (cut1 61 p).2.1 _ (by omega)).mono ?_
        rintro e w6 ⟨rfl, x6⟩
        go_wp2_with fail
        refine (unquoted_l (trimB (cut1 61 p).2.1) _ (by omega)).mono ?_
        rintro e w7 ⟨rfl, x7⟩
        have nc7 := x7.holds (x6.holds nc)
        have xr7 : Ext wr w7 := x2.trans (x3.trans (x4.trans (x5.trans (x6.trans x7))))
        clear x2 x3 x4 x5 x6 x7
        have hst : paramStep out p = if (cut1 61 p).2.2 && (unqB (trimB (cut1 61 p).2.1)).2 && tokenB nm && !out.any (fun x => x.1 == nm) then out ++ [(nm, (unqB (trimB (cut1 61 p).2.1)).1)] else out := by rw [Hnm.out]; rfl
        have hsn : ((rest.take (k + 1)).foldl paramStep []) = paramStep out p := by rw [take_foldl_snoc _ _ _ _ hlt, ← Hout.out, ← Hp.out]
        rw [hst] at hsn
        obtain ⟨vv, hvv⟩ : ∃ vv, vv = (unqB (trimB (cut1 61 p).2.1)).1 := ⟨_, rfl⟩
        rw [← hvv] at b5 hsn ⊢
        clear hvv hst
        have own7 : w7.ownsRow w1.heap.size 75 2 u5 out.length (pairCells out) := ownsRow_ext xr7 hown
        have Own7 := Lib.hid own7
        have Xr := Lib.hid (hx.trans xr7)
        have hsz7 : w1.heap.size ≤ w7.heap.size := (Xr.out).size
        clear own7 hown hx xr7 d1
        obtain ⟨fd, hfd⟩ : ∃ fd, fd = (cut1 61 p).2.2 := ⟨_, rfl⟩
        obtain ⟨ok, hok⟩ : ∃ ok, ok = (unqB (trimB (cut1 61 p).2.1)).2 := ⟨_, rfl⟩
        rw [← hfd, ← hok] at hsn ⊢
        clear hfd hok
        have Hsn := Lib.hid hsn
        clear hsn
        cases fd
        · have Hs2 : Hid (out = (rest.take (k + 1)).foldl paramStep []) := Lib.hid (by rw [Hsn.out]; rfl)
          go_wp2
          go_roundw
          case rel => exact ⟨k + 1, out, by omega, by go_num, by omega, Own7.out, Xr.out, Hs2.out⟩
          case measure => simp [intOf]; omega
        · cases ok
          · have Hs2 : Hid (out = (rest.take (k + 1)).foldl paramStep []) := Lib.hid (by rw [Hsn.out]; rfl)
            go_wp2
            go_roundw
            case rel => exact ⟨k + 1, out, by omega, by go_num, by omega, Own7.out, Xr.out, Hs2.out⟩
            case measure => simp [intOf]; omega
          · cases htk : tokenB nm
            · have Hs2 : Hid (out = (rest.take (k + 1)).foldl paramStep []) := Lib.hid (by rw [Hsn.out, htk]; rfl)
              go_wp2_with (go_at_call 35; refine (token_l nm _ (by omega)).mono ?_; rintro e w8 ⟨rfl, x8⟩)
              go_roundw
              case rel => exact ⟨k + 1, out, by omega, by go_num, by omega, ownsRow_ext x8 Own7.out, (Xr.out).trans x8, Hs2.out⟩
              case measure => simp [intOf]; omega
            · have Hca : Hid (∀ W : World, Ext w7 W → Calls Tryz.prog 36 #[u5, .func (.func 37) #[] #[.pointer (some ⟨w4.heap.size, 0, none⟩)]] W fun e w' => e = .returned (.bool (out.any (fun x => x.1 == nm))) ∧ Ext W w') :=
                Lib.hid fun W hW => contains_params 37 #[.pointer (some ⟨w4.heap.size, 0, none⟩)] (enters_of Tryz.func37 (by kernel_rfl) rfl) (fun x => x.1 == nm) out u5 W (PairsAt.of_owns (ownsRow_ext hW Own7.out)) (by unfold maxLen; omega)
                  (fun W2 x hx2 hW2 => params1_any ⟨x.1.toArray⟩ ⟨x.2.toArray⟩ ⟨nm.toArray⟩ w4.heap.size W2 (hW2.holds (hW.holds nc7)))
              cases hca : out.any (fun x => x.1 == nm)
              · have Hs2 : Hid ((rest.take (k + 1)).foldl paramStep [] = out ++ [(nm, vv)]) := Lib.hid (by rw [Hsn.out, htk, hca]; rfl)
                have Hh := Lib.hid hca
                clear hca
                go_wp2_with (go_at_call 35; refine (token_l nm _ (by omega)).mono ?_; rintro e w8 ⟨rfl, x8⟩)
                refine (Hca.out w8 x8).mono ?_
                rintro e w9 ⟨rfl, x9⟩
                rw [Hh.out]
                have nc9 := x9.holds (x8.holds nc7)
                have own9 := ownsRow_ext x9 (ownsRow_ext x8 Own7.out)
                have hsz9 : w1.heap.size ≤ w9.heap.size := by have := x8.size; have := x9.size; omega
                go_wp2_with (at_builtin; refine wpList_append1 w9 75 [vstr nm, vstr vv] rfl (.tmp 54) (.tmp 58) 24 rfl w1.heap.size i0 (.agg #[.string ByteArray.empty, .string ByteArray.empty]) 2 32 Tryz.underlying24 hi hz0 hz1 hz2 rfl (by decide) _ _ _ rfl own9 _ rfl rfl (by simp [Value.oneCell']) (by omega) (by omega) hsz9 ?_; intro g cap w10 own10 hb10 _)
                go_roundw
                case rel => exact ⟨k + 1, out ++ [(nm, vv)], by omega, by go_num, by simp; omega, by simpa [pairCells_snoc] using own10, ((Xr.out).trans (x8.trans x9)).upon hb10, Hs2.out.symm⟩
                case measure => simp [intOf]; omega
              · have Hs2 : Hid (out = (rest.take (k + 1)).foldl paramStep []) := Lib.hid (by rw [Hsn.out, htk, hca]; rfl)
                have Hh := Lib.hid hca
                clear hca
                go_wp2_with (go_at_call 35; refine (token_l nm _ (by omega)).mono ?_; rintro e w8 ⟨rfl, x8⟩)
                refine (Hca.out w8 x8).mono ?_
                rintro e w9 ⟨rfl, x9⟩
                rw [Hh.out]
                go_wp2
                go_roundw
                case rel => exact ⟨k + 1, out, by omega, by go_num, by omega, ownsRow_ext x9 (ownsRow_ext x8 Own7.out), (Xr.out).trans (x8.trans x9), Hs2.out⟩
                case measure => simp [intOf]; omega
      · obtain rfl : k = rest.length := by omega
        have hb0' := hx.holds hb0
        go_wp2_with (go_at_call 28; refine (trim_l p0 _ (by omega)).mono ?_; rintro e w2 ⟨rfl, x2⟩)
        go_ret2
        refine ⟨_, rfl, ?_, x1.trans (hx.trans x2)⟩
        have e := Hout.out
        rw [List.take_length] at e
        rw [← e]
        exact Pairs0.of_owns (ownsRow_ext x2 hown)
end Go.Proofs.YtdjcjkpodggdpaaGreatDoor
