/- The walk of view.Unescape. -/
import Derived.Test.YtfkjjhfoncckcaaGreatDoorVUnesc
namespace Go.Proofs.YtfkjjhfoncckcaaGreatDoor
open Go.RowKit Go.Sort

theorem EscAt.others {b n bb : Nat} {w w' : World} (h : EscAt b n w) (x : Lib.OthersKept 5 (some bb) w w') (hne : b ≠ bb) : EscAt b n w' := by
  obtain ⟨es, clock, hb, r⟩ := h
  exact ⟨es, clock, x b _ hb (by simpa using hne) (fun _ _ e => by cases e), r⟩
theorem EscAt.ext {b n : Nat} {w w' : World} (x : Ext w w') (h : EscAt b n w) : EscAt b n w' := h.kept (row := none) ⟨x.os, x.tape, x.output, x.size, fun _ hk _ => x.heap hk⟩ (by simp)
theorem mk_extract_take (l : List UInt8) (n : Nat) : (⟨l.toArray⟩ : ByteArray).extract 0 n = ⟨(l.take n).toArray⟩ := by rw [Lib.extract_eq]; simp
theorem mk_extract_drop (l : List UInt8) (n : Nat) : (⟨l.toArray⟩ : ByteArray).extract n l.length = ⟨(l.drop n).toArray⟩ := by rw [Lib.extract_eq, List.take_of_length_le (by simp)]

/-- How many bytes a string has. -/
def strLen : Value → Nat
  | .string x => x.size
  | _ => 0
theorem strLen_str (l : List UInt8) : strLen (vstr l) = l.length := rfl

set_option maxHeartbeats 2000000 in
set_option maxRecDepth 100000 in
theorem unescape_any (s : List UInt8) (w : World) (hs : s.length ≤ 1073741824) (hT : Tab w) :
    Calls Tryz.prog 23 #[vstr s] w fun e w' => e = .returned (.tuple #[vstr ((unescB s).getD []), .bool (unescB s).isSome]) ∧ Ext w w' := by
  have htl := hT.lt
  have hmm := @run_makeMap Tryz.prog
  go_enter Tryz.func23, Tryz.ntmps23
  go_wp2_with fail
  obtain ⟨b0, hb0⟩ : ∃ b0, b0 = w.heap.size := ⟨_, rfl⟩
  obtain ⟨W0, hW0⟩ : ∃ W0, W0 = (w.alloc (.cells #[.pointer none, .slice none 0 0] 70)).alloc (.map #[] 0) := ⟨_, rfl⟩
  have x0 : Ext w W0 := by rw [hW0]; exact ((Ext.refl w).alloc _).alloc _
  have h0 : W0.heap[b0]? = some (.cells #[.pointer none, .slice none 0 0] 70 (0, 0)) := by
    rw [hW0, hb0]
    exact (((Ext.refl (w.alloc (.cells #[.pointer none, .slice none 0 0] 70))).alloc _).heap (by simp)).trans (heap_new w _)
  have m0 : EscAt (b0 + 1) 0 W0 := by
    have := World.ownsMap_made (H := Unit) (w.alloc (.cells #[.pointer none, .slice none 0 0] 70)) Tryz.prog 9 (plainElem Tryz.prog 5)
    rw [World.size_alloc, ← hW0, ← hb0] at this
    exact this
  have hz0 : W0.heap.size = b0 + 1 + 1 := by rw [hW0, hb0]; simp
  have hbw : w.heap.size ≤ b0 := Nat.le_of_eq hb0.symm
  rw [← hW0, ← hb0]
  have Hb := Lib.hid hb0
  clear hW0 hb0
  refine (names_any _).mono ?_
  rintro e w1 ⟨bm, rfl, hbm, hn, x1⟩
  have h1 := (x1.heap (Array.getElem?_eq_some_iff.1 h0).1).trans h0
  have m1 := m0.ext x1
  have t1 := hT.ext (x0.trans x1)
  have x01 := x0.trans x1
  have hne : bm ≠ b0 := by omega
  have hne2 : bm ≠ b0 + 1 := by omega
  clear h0 x0 x1 hT m0
  go_wp2
  go_loopw [13] (fun i wr => ∃ k : Nat, k ≤ 256 ∧ i = .int .i64 k ∧ wr.heap[b0]? = some (.cells #[.pointer none, .slice none 0 0] 70 (0, 0)) ∧ EscAt (b0 + 1) k wr ∧ NamesAt bm wr ∧ Tab wr ∧ Ext w wr ∧ b0 + 1 < wr.heap.size) (fun i _ => 256 - (intOf i).toNat)
  case atStart => exact ⟨0, Nat.zero_le _, rfl, h1, m1, hn, t1, x01, m1.lt⟩
  case round =>
    obtain ⟨k, hk, rfl, kb, km, kn, kt, kx, ksz⟩ := hrel
    clear h1 m1 hn t1 x01
    by_cases hlt : k < 256
    · have hk8 : ((UInt8.ofNat k).toNat : Int) = (k : Int) := by rw [UInt8.toNat_ofNat', Nat.mod_eq_of_lt hlt]
      have HE := escaped_any bm (UInt8.ofNat k) wr kn kt
      rw [hk8] at HE
      have hw8 : IntKind.u8.wrap (k : Int) = (k : Int) := by
        have : IntKind.u8.wrap (k : Int) = (k : Int) % 256 := by kernel_rfl
        rw [this]; omega
      have hcl := escB_len (UInt8.ofNat k)
      have hstep : escD (k + 1) = (escD k).put (.string (escB (UInt8.ofNat k))) (.lit (.int .u8 k)) := rfl
      have hwf : (Lit.int .u8 (k : Int)).wf = true := by have := u8_wf (UInt8.ofNat k); rwa [hk8] at this
      obtain ⟨ec, hec⟩ : ∃ ec, ec = escB (UInt8.ofNat k) := ⟨_, rfl⟩
      rw [← hec] at HE hcl hstep
      have HE' := Lib.hid HE
      have Hstep := Lib.hid hstep
      have HM := Lib.hid km
      have HN := Lib.hid kn
      have HT := Lib.hid kt
      have HX := Lib.hid kx
      have HB := Lib.hid kb
      clear HE hstep km kn kt kx kb hec hk8
      go_wp2_with fail
      refine HE'.out.mono ?_
      rintro e w2 ⟨rfl, x2⟩
      obtain ⟨w3, hrun, hm3, hg3⟩ := (HM.out.ext x2).update str_keyed Tryz.underlying94 (by unfold maxLen; omega) (esc_key ec (by omega)) (plainElem_int Tryz.underlying5 hwf)
      rw [← Hstep.out] at hm3
      have b3 := (hg3.block b0 (by have := x2.size; omega) (by simp)).trans ((x2.heap (by omega)).trans HB.out)
      have n3 : NamesAt bm w3 := (HN.out.ext x2).kept hg3 (by simpa using hne2)
      have z2 := x2.size
      have z3 := hg3.size
      have x3 : Ext w w3 := Below.grown (HX.out.trans x2) hg3 (by have := HX.out.size; omega) (fun j e => by cases e; omega)
      have t3 : Tab w3 := (HT.out.ext x2).of_block (hg3.block _ (by omega) (by simp; omega))
      have H3 := Lib.hid (And.intro b3 (And.intro hm3 (And.intro n3 (And.intro t3 x3))))
      clear b3 hm3 n3 t3 x3 hg3
      go_wp2
      go_roundw
      case rel => exact ⟨k + 1, by omega, by go_num, H3.out.1, H3.out.2.1, H3.out.2.2.1, H3.out.2.2.2.1, H3.out.2.2.2.2, by omega⟩
      case measure => simp [intOf]; omega
    · obtain rfl : k = 256 := by omega
      have kb' : Bld 70 b0 b0 [] wr := bld_new (Nat.le_refl _) kb
      clear kb
      rw [show ((256 : Nat) : Int) = 256 from rfl]
      go_wp2
      go_loopw [0, 2, 3] (fun sv s2 s3 wr => ∃ rest acc : List UInt8, s2 = .string ⟨#[]⟩ ∧ s3 = .bool false ∧ sv = vstr rest ∧ rest.length ≤ s.length ∧ acc.length ≤ s.length ∧ acc.length + rest.length ≤ s.length ∧ unescB s = (unescB rest).map (acc ++ ·) ∧ Bld 70 b0 b0 acc wr ∧ EscAt (b0 + 1) 256 wr ∧ Ext w wr ∧ b0 + 1 < wr.heap.size)
        (fun sv _ _ _ => strLen sv)
      case atStart => exact ⟨s, [], rfl, rfl, rfl, Nat.le_refl _, Nat.zero_le _, by simp, by simp, kb', km, kx, ksz⟩
      case round =>
        obtain ⟨rest, acc, rfl, rfl, rfl, hr1, hr2, hr3, heq, rb, rm, rx, rsz⟩ := hrel
        have Heq := Lib.hid heq
        clear heq kb' km kn kt kx
        cases hrest : rest with
        | nil =>
          subst hrest
          have hu : unescB ([] : List UInt8) = some [] := by decide
          have h2 : unescB s = some acc := by rw [Heq.out, hu]; simp
          have H2 := Lib.hid h2
          clear hu h2 Heq
          go_wp2_with fail
          refine (builder_string b0 b0 acc _ rb (by omega)).mono ?_
          rintro e w2 ⟨rfl, _, hb2, _⟩
          go_wp2
          go_ret2
          exact ⟨by rw [H2.out]; rfl, rx.upon (hb2.mono hbw)⟩
        | cons x t =>
          have hst := unescB_step (x :: t) (by simp)
          have hpl := pieceLen_le (x :: t)
          have hfi := indexByte_find (x :: t) 59
          have hg : ((⟨(x :: t).toArray⟩ : ByteArray)[0]'(Nat.succ_pos _)) = x := rfl
          rw [hrest] at Heq hr1 hr3
          simp only [List.length_cons] at hr1 hr3 hpl
          by_cases h38 : x = 38
          · have hp38 : Lib.indexByte (x :: t) 59 + 1 = ((pieceLen (x :: t) : Nat) : Int) := by rw [pieceLen, if_pos h38]; exact hfi
            have g38 : ((x.toNat : Int) == 38) = true := by rw [h38]; rfl
            obtain ⟨n, hn⟩ : ∃ n, n = pieceLen (x :: t) := ⟨_, rfl⟩
            rw [← hn] at hst hpl hp38
            have e1 := mk_extract_take (x :: t) n
            have e2 := mk_extract_drop (x :: t) n
            simp only [List.length_cons] at e2
            obtain ⟨P, hP⟩ : ∃ P, P = (x :: t).take n := ⟨_, rfl⟩
            obtain ⟨R, hR⟩ : ∃ R, R = (x :: t).drop n := ⟨_, rfl⟩
            have hPl : P.length ≤ s.length := by rw [hP, List.length_take]; simp only [List.length_cons]; omega
            have hRl : R.length = t.length + 1 - n := by rw [hR, List.length_drop, List.length_cons]
            rw [← hP] at e1 hst
            rw [← hR] at e2 hst
            have hl := esc_look (b0 + 1) P wr rm (by omega)
            have c0 : (0 : Int) ≤ n := by omega
            have c1 : (n : Int) ≤ (t.length : Int) + 1 := by omega
            obtain ⟨ib, hib⟩ : ∃ ib, ib = Lib.indexByte (x :: t) 59 := ⟨_, rfl⟩
            have HI : Calls Tryz.prog 50 #[vstr (x :: t), .int .u8 59] wr fun e w' => e = .returned (.int .i64 ib) ∧ w' = wr := by rw [hib]; exact Tryz.strings_IndexByte ⟨(x :: t).toArray⟩ 59 wr
            have hib1 : ib + 1 = (n : Int) := by rw [hib]; exact hp38
            have Hst := Lib.hid hst
            have HRl := Lib.hid hRl
            have HII := Lib.hid HI
            cases hu : unescOne P with
            | none =>
              rw [hu] at hl
              simp only [Option.getD_none, Option.isSome_none] at hl
              have h2 : Hid (unescB s = none) := Lib.hid (by rw [Heq.out, Hst.out, hu]; rfl)
              clear hn hP hR hst hfi hp38 hRl hu h38 Heq Hst hrest hib HI
              go_wp2_with fail
              refine HII.out.mono ?_
              rintro e w2 ⟨rfl, rfl⟩
              go_wp2
              go_ret2
              exact ⟨by rw [h2.out]; rfl, rx⟩
            | some c =>
              rw [hu] at hl
              simp only [Option.getD_some, Option.isSome_some] at hl
              have h2 : Hid (unescB s = (unescB R).map ((acc ++ [c]) ++ ·)) := Lib.hid (by rw [Heq.out, Hst.out, hu]; simp [Function.comp_def])
              have hn1 : 1 ≤ n := by
                refine Nat.pos_of_ne_zero fun e => ?_
                rw [hP, e, List.take_zero, unescOne_nil] at hu
                cases hu
              clear hn hP hR hst hfi hp38 hRl hu h38 Heq Hst hrest hib HI
              go_wp2_with fail
              refine HII.out.mono ?_
              rintro e w2 ⟨rfl, rfl⟩
              go_wp2_with fail
              refine (writeByte_any lies_builder b0 b0 acc c _ rb (by omega) (by omega)).mono ?_
              rintro e w3 ⟨rfl, r3, hb3, ho3⟩
              have m3 := rm.others ho3 (by omega)
              have x3 : Ext w w3 := rx.upon (hb3.mono hbw)
              have z3 := hb3.size
              have R3 := Lib.hid r3
              clear hb3 ho3 r3
              go_wp2
              go_roundw
              case rel => exact ⟨R, acc ++ [c], rfl, rfl, rfl, by rw [HRl.out]; omega, by simp; omega, by rw [HRl.out]; simp; omega, h2.out, R3.out, m3, x3, by omega⟩
              case measure => rw [strLen_str, strLen_str, HRl.out]; simp only [List.length_cons]; omega
          · have g38 : ((x.toNat : Int) == 38) = false := by
              simp only [beq_eq_false_iff_ne, ne_eq]
              intro e
              exact h38 (UInt8.toNat_inj.1 (by show x.toNat = 38; omega))
            have hp1 : pieceLen (x :: t) = 1 := by rw [pieceLen, if_neg h38]
            rw [hp1] at hst
            simp only [List.take_succ_cons, List.take_zero, List.drop_succ_cons, List.drop_zero] at hst
            have e1 : (⟨(x :: t).toArray⟩ : ByteArray).extract 0 1 = ⟨[x].toArray⟩ := mk_extract_take (x :: t) 1
            have e2 : (⟨(x :: t).toArray⟩ : ByteArray).extract 1 (t.length + 1) = ⟨t.toArray⟩ := mk_extract_drop (x :: t) 1
            have hl := esc_look (b0 + 1) [x] wr rm (by simp)
            have c1 : (1 : Int) ≤ (t.length : Int) + 1 := by omega
            have Hst := Lib.hid hst
            cases hu : unescOne [x] with
            | none =>
              rw [hu] at hl
              simp only [Option.getD_none, Option.isSome_none] at hl
              have h2 : Hid (unescB s = none) := Lib.hid (by rw [Heq.out, Hst.out, hu]; rfl)
              clear hst hfi hp1 hu h38 Heq Hst hrest
              go_wp2
              go_ret2
              exact ⟨by rw [h2.out]; rfl, rx⟩
            | some c =>
              rw [hu] at hl
              simp only [Option.getD_some, Option.isSome_some] at hl
              have h2 : Hid (unescB s = (unescB t).map ((acc ++ [c]) ++ ·)) := Lib.hid (by rw [Heq.out, Hst.out, hu]; simp [Function.comp_def])
              clear hst hfi hp1 hu h38 Heq Hst hrest
              go_wp2_with fail
              refine (writeByte_any lies_builder b0 b0 acc c _ rb (by omega) (by omega)).mono ?_
              rintro e w3 ⟨rfl, r3, hb3, ho3⟩
              have m3 := rm.others ho3 (by omega)
              have x3 : Ext w w3 := rx.upon (hb3.mono hbw)
              have z3 := hb3.size
              have R3 := Lib.hid r3
              clear hb3 ho3 r3
              go_wp2
              go_roundw
              case rel => exact ⟨t, acc ++ [c], rfl, rfl, rfl, by omega, by simp; omega, by simp; omega, h2.out, R3.out, m3, x3, by omega⟩
              case measure => rw [strLen_str, strLen_str]; simp only [List.length_cons]; omega
end Go.Proofs.YtfkjjhfoncckcaaGreatDoor
