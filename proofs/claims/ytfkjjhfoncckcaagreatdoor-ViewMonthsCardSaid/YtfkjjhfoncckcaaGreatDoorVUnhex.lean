/- digest.Unhex. -/
import Derived.Test.YtfkjjhfoncckcaaGreatDoorVHex
import Derived.Test.YtfkjjhfoncckcaaGreatDoorVUnescW
import Derived.Deep.QuietTactic
import Derived.BigQuiet
namespace Go.Proofs.YtfkjjhfoncckcaaGreatDoor
open Go.RowKit Go.Sort

def idxD (c : UInt8) : Option Nat := digB.findIdx? (· == c)
/-- What is read of hexadecimal digits. -/
def unhexB : List UInt8 → Option (List UInt8)
  | [] => some []
  | [_] => none
  | a :: b :: t => match idxD a, idxD b with
    | some h, some l => (unhexB t).map (UInt8.ofNat (16 * h + l) :: ·)
    | _, _ => none
theorem idx_l (l : List UInt8) (c : UInt8) (w : World) : Calls Tryz.prog 50 #[vstr l, .int .u8 c.toNat] w fun e w' => e = .returned (.int .i64 (Lib.indexByte l c)) ∧ w' = w := by
  have h := Tryz.strings_IndexByte ⟨l.toArray⟩ (c.toNat : Int) w
  have e : (c.toNat : Int).toNat.toUInt8 = c := by rw [Int.toNat_natCast]; exact UInt8.ofNat_toNat
  rw [e] at h
  exact h
theorem idxD_cases (c : UInt8) : (Lib.indexByte digB c = -1 ∧ idxD c = none) ∨ ∃ i : Nat, Lib.indexByte digB c = i ∧ idxD c = some i ∧ i < 16 := by
  have h := indexByte_find digB c
  unfold idxD
  cases hf : digB.findIdx? (· == c) with
  | none =>
    rw [hf] at h
    have : Lib.indexByte digB c + 1 = 0 := h
    exact .inl ⟨by omega, rfl⟩
  | some i =>
    rw [hf] at h
    have h2 : Lib.indexByte digB c + 1 = ((i + 1 : Nat) : Int) := h
    exact .inr ⟨i, by omega, rfl, (List.findIdx?_eq_some_iff_getElem.1 hf).1⟩
theorem unhexB_odd : ∀ (n : Nat) (l : List UInt8), l.length ≤ n → l.length % 2 = 1 → unhexB l = none := by
  intro n
  induction n with
  | zero => intro l h h2; have : l.length = 0 := by omega
            omega
  | succ n ih =>
    intro l h h2
    match l, h, h2 with
    | [], _, h2 => simp at h2
    | [x], _, _ => rfl
    | a :: b :: t, h, h2 =>
      simp only [List.length_cons] at h h2
      rw [unhexB, ih t (by omega) (by omega)]
      split <;> rfl

set_option maxHeartbeats 2000000 in
set_option maxRecDepth 100000 in
theorem unhex_any (s : List UInt8) (w : World) (hs : s.length ≤ 1073741824) :
    Calls Tryz.prog 22 #[vstr s] w fun e w' => e = .returned (.tuple #[vstr ((unhexB s).getD []), .bool (unhexB s).isSome]) ∧ Ext w w' := by
  by_cases hodd : s.length % 2 = 1
  · have hu := unhexB_odd _ s (Nat.le_refl _) hodd
    have g1 : ((s.length : Int) % 2 == 1) = true := by simp only [beq_iff_eq]; omega
    have HU := Lib.hid hu
    clear hu hodd
    go_enter Tryz.func22, Tryz.ntmps22
    go_wp2
    go_ret2
    exact ⟨by rw [HU.out]; rfl, Ext.refl _⟩
  · have g1 : ((s.length : Int) % 2 == 1) = false := by simp only [beq_eq_false_iff_ne, ne_eq]; omega
    have hev : s.length % 2 = 0 := by omega
    clear hodd
    go_enter Tryz.func22, Tryz.ntmps22
    go_wp2
    obtain ⟨b0, hb0⟩ : ∃ b0, b0 = w.heap.size := ⟨_, rfl⟩
    obtain ⟨W0, hW0⟩ : ∃ W0, W0 = w.alloc (.cells #[.pointer none, .slice none 0 0] 70) := ⟨_, rfl⟩
    have x0 : Ext w W0 := by rw [hW0]; exact (Ext.refl w).alloc _
    have k0 : Bld 70 b0 b0 [] W0 := bld_new (Nat.le_refl _) (by rw [hW0, hb0]; exact heap_new w _)
    have hz0 : b0 < W0.heap.size := by rw [hW0, hb0]; simp
    have hbw : w.heap.size ≤ b0 := Nat.le_of_eq hb0.symm
    rw [← hW0, ← hb0]
    clear hW0 hb0
    go_loopw [5] (fun i wr => ∃ (k : Nat) (acc : List UInt8), k ≤ s.length ∧ k % 2 = 0 ∧ i = .int .i64 k ∧ acc.length ≤ k ∧ unhexB s = (unhexB (s.drop k)).map (acc ++ ·) ∧ Bld 70 b0 b0 acc wr ∧ Ext w wr ∧ b0 < wr.heap.size) (fun i _ => s.length - (intOf i).toNat)
    case atStart => exact ⟨0, [], Nat.zero_le _, rfl, rfl, Nat.le_refl _, by simp, k0, x0, hz0⟩
    case round =>
      obtain ⟨k, acc, hk, hk2, rfl, hacc, heq, kb, kx, ksz⟩ := hrel
      have Heq := Lib.hid heq
      clear heq k0 x0 hz0
      by_cases hlt : k < s.length
      · have hlt2 : k + 1 < s.length := by omega
        have hd : s.drop k = s[k] :: s[k + 1] :: s.drop (k + 2) := by rw [List.drop_eq_getElem_cons hlt, List.drop_eq_getElem_cons hlt2]
        have ga : ((⟨s.toArray⟩ : ByteArray)[k]'hlt) = s[k] := rfl
        have gb : ((⟨s.toArray⟩ : ByteArray)[k + 1]'hlt2) = s[k + 1] := rfl
        obtain ⟨a, ha⟩ : ∃ a, a = s[k] := ⟨_, rfl⟩
        obtain ⟨b, hb⟩ : ∃ b, b = s[k + 1] := ⟨_, rfl⟩
        rw [← ha] at ga hd
        rw [← hb] at gb hd
        have hst : unhexB (s.drop k) = match idxD a, idxD b with
          | some h, some l => (unhexB (s.drop (k + 2))).map (UInt8.ofNat (16 * h + l) :: ·)
          | _, _ => none := by rw [hd, unhexB]
        have Hst := Lib.hid hst
        clear ha hb hd hst
        have hwr : IntKind.i64.wrap ((k : Int) + 1) = (k : Int) + 1 := by rw [IntKind.wrap_i64]; omega
        have hkn : ((k : Int) + 1).toNat = k + 1 := by omega
        rcases idxD_cases a with ⟨ia, ea⟩ | ⟨h, ia, ea, hh⟩
        · have ia' : Lib.indexByte [48, 49, 50, 51, 52, 53, 54, 55, 56, 57, 97, 98, 99, 100, 101, 102] a = -1 := ia
          have h2 : Hid (unhexB s = none) := Lib.hid (by rw [Heq.out, Hst.out, ea]; rfl)
          clear ia ea Heq Hst
          go_wp2_with fail
          go_quiet ((go_at_call 50; exact Calls.quiet_of_same (idx_l _ _ _)))
          go_wp2
          go_ret2
          exact ⟨by rw [h2.out]; rfl, kx.drewN _⟩
        · rcases idxD_cases b with ⟨ib, eb⟩ | ⟨l, ib, eb, hl⟩
          · have ia' : Lib.indexByte [48, 49, 50, 51, 52, 53, 54, 55, 56, 57, 97, 98, 99, 100, 101, 102] a = (h : Int) := ia
            have ib' : Lib.indexByte [48, 49, 50, 51, 52, 53, 54, 55, 56, 57, 97, 98, 99, 100, 101, 102] b = -1 := ib
            have h2 : Hid (unhexB s = none) := Lib.hid (by rw [Heq.out, Hst.out, ea, eb]; rfl)
            clear ia ea ib eb Heq Hst
            go_wp2_with fail
            go_quiet ((go_at_call 50; exact Calls.quiet_of_same (idx_l _ _ _)))
            go_wp2
            go_ret2
            exact ⟨by rw [h2.out]; rfl, kx.drewN _⟩
          · have ia' : Lib.indexByte [48, 49, 50, 51, 52, 53, 54, 55, 56, 57, 97, 98, 99, 100, 101, 102] a = (h : Int) := ia
            have ib' : Lib.indexByte [48, 49, 50, 51, 52, 53, 54, 55, 56, 57, 97, 98, 99, 100, 101, 102] b = (l : Int) := ib
            have h2 : Hid (unhexB s = (unhexB (s.drop (k + 2))).map ((acc ++ [UInt8.ofNat (16 * h + l)]) ++ ·)) := Lib.hid (by rw [Heq.out, Hst.out, ea, eb]; simp [Function.comp_def])
            have hc8 : ((UInt8.ofNat (16 * h + l)).toNat : Int) = 16 * (h : Int) + (l : Int) := by rw [UInt8.toNat_ofNat', Nat.mod_eq_of_lt (by omega)]; omega
            obtain ⟨c, hc⟩ : ∃ c, c = UInt8.ofNat (16 * h + l) := ⟨_, rfl⟩
            rw [← hc] at h2 hc8
            have hw8 : IntKind.u8.wrap (16 * (h : Int) + (l : Int)) = 16 * (h : Int) + (l : Int) := by
              have : ∀ n : Int, IntKind.u8.wrap n = n % 256 := fun n => by kernel_rfl
              rw [this]; omega
            have Hc8 := Lib.hid hc8
            have KB := Lib.hid kb
            have KX := Lib.hid kx
            clear ia ea ib eb Heq Hst hc hc8 kb kx
            go_wp2_with fail
            go_quiet ((go_at_call 50; exact Calls.quiet_of_same (idx_l _ _ _)))
            go_wp2_with fail
            refine (writeByte_num lies_builder b0 b0 acc c _ Hc8.out _ (KB.out.ext ((Ext.refl _).drewN _)) (by omega) (by exact Nat.le_of_lt ksz)).mono ?_
            rintro e w3 ⟨rfl, r3, hb3, _⟩
            have z3 : b0 < w3.heap.size := Nat.lt_of_lt_of_le ksz hb3.size
            have x3 : Ext w w3 := (KX.out.drewN _).upon (hb3.mono hbw)
            have R3 := Lib.hid r3
            clear hb3 r3
            go_wp2
            go_roundw
            case rel => exact ⟨k + 2, acc ++ [c], by omega, by omega, by go_num, by simp; omega, h2.out, R3.out, x3, z3⟩
            case measure => simp [intOf]; omega
      · obtain rfl : k = s.length := by omega
        have h2 : unhexB s = some acc := by rw [Heq.out, List.drop_length]; simp [unhexB]
        have H2 := Lib.hid h2
        clear h2 Heq
        go_wp2_with fail
        refine (builder_string b0 b0 acc _ kb (by omega)).mono ?_
        rintro e w2 ⟨rfl, _, h2, _⟩
        go_wp2
        go_ret2
        exact ⟨by rw [H2.out]; rfl, kx.upon (h2.mono hbw)⟩
end Go.Proofs.YtfkjjhfoncckcaaGreatDoor
