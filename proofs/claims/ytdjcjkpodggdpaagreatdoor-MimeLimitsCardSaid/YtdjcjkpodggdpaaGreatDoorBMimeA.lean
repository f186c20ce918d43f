/- Contracts of package mime: tokens, types, names, delimiters. -/
import Derived.Test.YtdjcjkpodggdpaaGreatDoorAForms
namespace Go.Proofs.YtdjcjkpodggdpaaGreatDoor
open Go.RowKit

/-- The index function over bytes. -/
theorem indexFunc_bytes (g : Nat) (lb : Array Value) (eg : ∀ args w, (callFunc g args).run Tryz.prog w = .ok (.enter g args) w) (p : UInt8 → Bool)
    (l : List UInt8) (b cap : Nat) (w : World) (hv : BufAt w b l) (hl : l.length ≤ maxLen)
    (hf : ∀ (W : World) (x : UInt8), x ∈ l → Ext w W → Calls Tryz.prog g (#[.int .u8 x.toNat] ++ lb) W fun e w' => e = .returned (.bool (p x)) ∧ Ext W w') :
    Calls Tryz.prog 86 #[.slice (some ⟨b, 0, none⟩) l.length cap, .func (.func g) #[] lb] w fun e w' => e = .returned (.int .i64 (idxP p l)) ∧ Ext w w' := by
  unfold maxLen at hl
  have hcells := hv.2
  clear hv
  go_enter Tryz.func86, Tryz.ntmps86
  go_wp2
  go_loopw [5, 8] (fun _ i wr => ∃ k : Nat, k ≤ l.length ∧ i = .int .i64 k ∧ (∀ j (hj : j < l.length), j < k → p l[j] = false) ∧ Ext w wr) (fun _ i _ => l.length - (intOf i).toNat)
  case atStart => exact ⟨0, Nat.zero_le _, rfl, fun j _ hj => absurd hj (Nat.not_lt_zero _), Ext.refl w⟩
  case round =>
    obtain ⟨k, hk, rfl, hp, hx⟩ := hrel
    by_cases hlt : k < l.length
    · obtain ⟨hc1, _⟩ := hcells k hlt
      have hd1 := hx.holds hc1
      have Hp := Lib.hid hp
      have Hf := Lib.hid hf
      have Hc := Lib.hid hcells
      clear hp hf hcells hc1
      go_wp2_with fail
      have hc := Hf.out wr l[k] (List.getElem_mem hlt) hx
      by_cases hpk : p l[k] = true
      · refine (hc.mono ?_)
        rintro e w1 ⟨rfl, h1⟩
        rw [hpk]
        go_wp2
        go_ret
        refine ⟨ret_int ?_, hx.trans h1⟩
        rw [idxP, List.findIdx?_eq_some_iff_getElem.2 ⟨hlt, hpk, fun j hj => by simpa using Hp.out j (by omega) hj⟩]
      · have hpk' : p l[k] = false := by simpa using hpk
        refine (hc.mono ?_)
        rintro e w1 ⟨rfl, h1⟩
        rw [hpk']
        go_wp2
        go_roundw
        case rel => exact ⟨k + 1, by omega, by go_num, fun j hj hjk => by
          by_cases e : j = k
          · subst e; exact hpk'
          · exact Hp.out j hj (by omega), hx.trans h1⟩
        case measure => simp [intOf]; omega
    · obtain rfl : k = l.length := by omega
      have Hp := Lib.hid hp
      clear hp hf hcells
      go_wp2
      go_ret
      refine ⟨ret_int ?_, hx⟩
      rw [idxP, List.findIdx?_eq_none_iff.2 fun x hx => by
        obtain ⟨j, hj, rfl⟩ := List.getElem_of_mem hx
        exact Hp.out j hj hj]
theorem contains_bytes (g : Nat) (lb : Array Value) (eg : ∀ args w, (callFunc g args).run Tryz.prog w = .ok (.enter g args) w) (p : UInt8 → Bool)
    (l : List UInt8) (b cap : Nat) (w : World) (hv : BufAt w b l) (hl : l.length ≤ maxLen)
    (hf : ∀ (W : World) (x : UInt8), x ∈ l → Ext w W → Calls Tryz.prog g (#[.int .u8 x.toNat] ++ lb) W fun e w' => e = .returned (.bool (p x)) ∧ Ext W w') :
    Calls Tryz.prog 59 #[.slice (some ⟨b, 0, none⟩) l.length cap, .func (.func g) #[] lb] w fun e w' => e = .returned (.bool (l.any p)) ∧ Ext w w' := by
  have h := Lib.hid (indexFunc_bytes g lb eg p l b cap w hv hl hf)
  clear hv hl hf eg
  go_enter Tryz.func59, Tryz.ntmps59
  go_wp2_with (go_at_call 86; refine h.out.mono ?_; rintro e w1 ⟨rfl, h1⟩)
  go_ret
  exact ⟨ret_bool (any_idxP p l), h1⟩

/-- No byte of a word. -/
def badB (c : UInt8) : Bool := decide (c.toNat < 33) || decide (126 < c.toNat) || specialB.contains c
theorem badB_any (c : UInt8) (w : World) :
    Calls Tryz.prog 60 #[.int .u8 c.toNat] w fun e w' => e = .returned (.bool (badB c)) ∧ Ext w w' := by
  have hb := Tryz.strings_IndexByte ⟨#[40, 41, 60, 62, 64, 44, 59, 58, 92, 34, 47, 91, 93, 63, 61]⟩ c.toNat
  by_cases h1 : c.toNat < 33
  · go_enter Tryz.func60, Tryz.ntmps60
    go_wp2
    go_ret
    exact ⟨ret_bool (by simp [badB, h1]), Ext.refl _⟩
  · by_cases h2 : 126 < c.toNat
    · go_enter Tryz.func60, Tryz.ntmps60
      go_wp2
      go_ret
      exact ⟨ret_bool (by simp [badB, h2]), Ext.refl _⟩
    · go_enter Tryz.func60, Tryz.ntmps60
      go_wp2_with (go_at_call 61; refine (Tryz.strings_IndexByte ⟨#[40, 41, 60, 62, 64, 44, 59, 58, 92, 34, 47, 91, 93, 63, 61]⟩ c.toNat _).mono ?_; rintro e w ⟨rfl, rfl⟩)
      go_ret
      refine ⟨ret_bool ?_, Ext.refl _⟩
      have d1 : decide ((c.toNat : Int) < 33) = false := by rw [decide_eq_false_iff_not]; omega
      have d2 : decide (126 < (c.toNat : Int)) = false := by rw [decide_eq_false_iff_not]; omega
      rw [d1, d2]
      simp only [badB, h1, h2, decide_false, Bool.false_or, Lib.contains_iff_indexByte]
      rfl
/-- A word. -/
def tok2B (l : List UInt8) : Bool := !l.isEmpty && !l.any badB
theorem tok2_any (s : ByteArray) (w : World) (hs : s.size ≤ 1073741824) :
    Calls Tryz.prog 38 #[.string s] w fun e w' => e = .returned (.bool (tok2B s.data.toList)) ∧ Ext w w' := by
  by_cases he : s.data.toList = []
  · obtain rfl := empty_toList he
    go_enter Tryz.func38, Tryz.ntmps38
    go_wp2
    go_ret
    exact ⟨rfl, Ext.refl _⟩
  · have hne : s.toList.isEmpty = false := by rw [Lib.toList_data]; simpa using he
    have hne' : s.data.toList.isEmpty = false := by simpa using he
    have hconv := run_bytes_of_string (P := Tryz.prog) w 9 84 5 s Tryz.underlying9 Tryz.underlying84 Tryz.underlying5
    have hx0 := (Ext.refl w).alloc (.cells (bytesRow s (grownCap w s.size 0 5)) 5 ((bytesRow s (grownCap w s.size 0 5)).size, (bytesRow s (grownCap w s.size 0 5)).size + 1))
    have hbuf : BufAt (w.alloc (.cells (bytesRow s (grownCap w s.size 0 5)) 5 ((bytesRow s (grownCap w s.size 0 5)).size, (bytesRow s (grownCap w s.size 0 5)).size + 1))).drew w.heap.size s.data.toList := by
      refine ⟨by show w.heap.size < (w.alloc _).heap.size; rw [World.size_alloc]; omega, fun j hj => ?_⟩
      have hj' : j < s.data.size := by simpa using hj
      refine ⟨?_, ?_⟩
      · rw [World.cell?_drew, World.cell?_alloc_mark, bytesRow_at _ _ _ hj']
        simp
      · rw [World.frozen?_drew, World.frozen?_alloc_mark]
        have : (bytesRow s (grownCap w s.size 0 5)).size ≥ s.data.size := by simp [bytesRow]
        simp; omega
    have hsz : s.data.toList.length = s.size := len_toList s
    have hcb := contains_bytes 60 #[] (enters_of Tryz.func60 (by kernel_rfl) rfl) badB s.data.toList w.heap.size (grownCap w s.size 0 5) _ hbuf (by rw [hsz]; unfold maxLen; omega) (fun W x _ _ => badB_any x W)
    rw [hsz] at hcb
    have Hcb := Lib.hid hcb
    have Hx := Lib.hid hx0
    clear hcb hbuf hsz hx0
    go_enter Tryz.func38, Tryz.ntmps38
    go_wp2_with (go_at_call 59; refine Hcb.out.mono ?_; rintro e w1 ⟨rfl, h1⟩)
    go_ret
    exact ⟨ret_bool (by simp [tok2B, hne']), (Hx.out.drew).trans h1⟩
theorem tok2_l (l : List UInt8) (w : World) (h : l.length ≤ 1073741824) :
    Calls Tryz.prog 38 #[vstr l] w fun e w' => e = .returned (.bool (tok2B l)) ∧ Ext w w' := tok2_any ⟨l.toArray⟩ w h

/-- A well formed type. -/
def formedB (l : List UInt8) : Bool := tok2B (cut1 47 l).1 && tok2B (cut1 47 l).2.1 && (lowerB l == l)
theorem formed_l (l : List UInt8) (w : World) (h : l.length ≤ 1073741824) :
    Calls Tryz.prog 18 #[vstr l] w fun e w' => e = .returned (.bool (formedB l)) ∧ Ext w w' := by
  have b1 := cut1_len1 47 l
  have b2 := cut1_len2 47 l
  cases h1 : tok2B (cut1 47 l).1
  · have H1 := Lib.hid h1
    clear h1
    go_enter Tryz.func18, Tryz.ntmps18
    go_wp2_with fail
    refine (cut_l l 47 _ h).mono ?_
    rintro e w1 ⟨rfl, x1⟩
    go_wp2_with fail
    refine (tok2_l _ _ (by omega)).mono ?_
    rintro e w2 ⟨rfl, x2⟩
    rw [H1.out]
    go_wp2
    go_ret
    exact ⟨ret_bool (by simp [formedB, H1.out]), x1.trans x2⟩
  · cases h2 : tok2B (cut1 47 l).2.1
    · have H1 := Lib.hid h1
      have H2 := Lib.hid h2
      clear h1 h2
      go_enter Tryz.func18, Tryz.ntmps18
      go_wp2_with fail
      refine (cut_l l 47 _ h).mono ?_
      rintro e w1 ⟨rfl, x1⟩
      go_wp2_with fail
      refine (tok2_l _ _ (by omega)).mono ?_
      rintro e w2 ⟨rfl, x2⟩
      rw [H1.out]
      go_wp2_with fail
      refine (tok2_l _ _ (by omega)).mono ?_
      rintro e w3 ⟨rfl, x3⟩
      rw [H2.out]
      go_wp2
      go_ret
      exact ⟨ret_bool (by simp [formedB, H2.out]), x1.trans (x2.trans x3)⟩
    · have H1 := Lib.hid h1
      have H2 := Lib.hid h2
      clear h1 h2
      go_enter Tryz.func18, Tryz.ntmps18
      go_wp2_with fail
      refine (cut_l l 47 _ h).mono ?_
      rintro e w1 ⟨rfl, x1⟩
      go_wp2_with fail
      refine (tok2_l _ _ (by omega)).mono ?_
      rintro e w2 ⟨rfl, x2⟩
      rw [H1.out]
      go_wp2_with fail
      refine (tok2_l _ _ (by omega)).mono ?_
      rintro e w3 ⟨rfl, x3⟩
      rw [H2.out]
      go_wp2_with fail
      refine (lower_l l _ h).mono ?_
      rintro e w4 ⟨rfl, x4⟩
      go_wp2
      go_ret
      exact ⟨ret_bool (by simp [formedB, H1.out, H2.out]), x1.trans (x2.trans (x3.trans x4))⟩

/-- The names of the MIME fields, and the types with parts. -/
def ctB : List UInt8 := [67, 111, 110, 116, 101, 110, 116, 45, 84, 121, 112, 101]
def cteB : List UInt8 := [67, 111, 110, 116, 101, 110, 116, 45, 84, 114, 97, 110, 115, 102, 101, 114, 45, 69, 110, 99, 111, 100, 105, 110, 103]
def mvB : List UInt8 := [77, 73, 77, 69, 45, 86, 101, 114, 115, 105, 111, 110]
def multiB : List UInt8 := [109, 117, 108, 116, 105, 112, 97, 114, 116, 47]
def rfcB : List UInt8 := [109, 101, 115, 115, 97, 103, 101, 47, 114, 102, 99, 56, 50, 50]
def isMimeB (l : List UInt8) : Bool := sameB l ctB || sameB l cteB || sameB l mvB
theorem isMime_l (l : List UInt8) (w : World) (h : l.length ≤ 1073741824) :
    Calls Tryz.prog 15 #[vstr l] w fun e w' => e = .returned (.bool (isMimeB l)) ∧ Ext w w' := by
  cases h1 : sameB l ctB
  · cases h2 : sameB l cteB
    · have H1 := Lib.hid h1
      have H2 := Lib.hid h2
      clear h1 h2
      go_enter Tryz.func15, Tryz.ntmps15
      go_wp2_with fail
      refine (same_l l ctB _ h (by decide)).mono ?_
      rintro e w1 ⟨rfl, x1⟩
      rw [H1.out]
      go_wp2_with fail
      refine (same_l l cteB _ h (by decide)).mono ?_
      rintro e w2 ⟨rfl, x2⟩
      rw [H2.out]
      go_wp2_with fail
      refine (same_l l mvB _ h (by decide)).mono ?_
      rintro e w3 ⟨rfl, x3⟩
      go_wp2
      go_ret
      exact ⟨ret_bool (by simp [isMimeB, H1.out, H2.out]), x1.trans (x2.trans x3)⟩
    · have H1 := Lib.hid h1
      have H2 := Lib.hid h2
      clear h1 h2
      go_enter Tryz.func15, Tryz.ntmps15
      go_wp2_with fail
      refine (same_l l ctB _ h (by decide)).mono ?_
      rintro e w1 ⟨rfl, x1⟩
      rw [H1.out]
      go_wp2_with fail
      refine (same_l l cteB _ h (by decide)).mono ?_
      rintro e w2 ⟨rfl, x2⟩
      rw [H2.out]
      go_wp2
      go_ret
      exact ⟨ret_bool (by simp [isMimeB, H2.out]), x1.trans x2⟩
  · have H1 := Lib.hid h1
    clear h1
    go_enter Tryz.func15, Tryz.ntmps15
    go_wp2_with fail
    refine (same_l l ctB _ h (by decide)).mono ?_
    rintro e w1 ⟨rfl, x1⟩
    rw [H1.out]
    go_wp2
    go_ret
    exact ⟨ret_bool (by simp [isMimeB, H1.out]), x1⟩

def containerB (l : List UInt8) : Bool := Lib.hasPrefix l multiB || (l == rfcB)
theorem container_l (l : List UInt8) (w : World) :
    Calls Tryz.prog 21 #[vstr l] w fun e w' => e = .returned (.bool (containerB l)) ∧ Ext w w' := by
  cases h1 : Lib.hasPrefix l multiB
  · have H1 := Lib.hid h1
    clear h1
    go_enter Tryz.func21, Tryz.ntmps21
    go_wp2_with fail
    refine (Tryz.strings_HasPrefix ⟨l.toArray⟩ ⟨multiB.toArray⟩ _).mono ?_
    rintro e w ⟨rfl, rfl⟩
    rw [show Lib.hasPrefix (⟨l.toArray⟩ : ByteArray).data.toList (⟨multiB.toArray⟩ : ByteArray).data.toList = false from H1.out]
    go_wp2
    go_ret
    refine ⟨ret_bool ?_, Ext.refl _⟩
    simp [containerB, H1.out, rfcB]
  · have H1 := Lib.hid h1
    clear h1
    go_enter Tryz.func21, Tryz.ntmps21
    go_wp2_with fail
    refine (Tryz.strings_HasPrefix ⟨l.toArray⟩ ⟨multiB.toArray⟩ _).mono ?_
    rintro e w ⟨rfl, rfl⟩
    rw [show Lib.hasPrefix (⟨l.toArray⟩ : ByteArray).data.toList (⟨multiB.toArray⟩ : ByteArray).data.toList = true from H1.out]
    go_wp2
    go_ret
    exact ⟨ret_bool (by simp [containerB, H1.out]), Ext.refl _⟩

/-- The two encodings that are decoded. -/
def b64B : List UInt8 := [98, 97, 115, 101, 54, 52]
def qpB : List UInt8 := [113, 117, 111, 116, 101, 100, 45, 112, 114, 105, 110, 116, 97, 98, 108, 101]
/-- Any other encoding leaves the text as it is. -/
theorem decode_none (l e : List UInt8) (w : World) (he : e.length ≤ 1073741824) (h1 : lowerB e ≠ b64B) (h2 : lowerB e ≠ qpB) :
    Calls Tryz.prog 20 #[vstr l, vstr e] w fun r w' => r = .returned (vstr l) ∧ Ext w w' := by
  have g1 : ((lowerB e) == [98, 97, 115, 101, 54, 52]) = false := beq_eq_false_iff_ne.2 h1
  have g2 : ((lowerB e) == [113, 117, 111, 116, 101, 100, 45, 112, 114, 105, 110, 116, 97, 98, 108, 101]) = false := beq_eq_false_iff_ne.2 h2
  clear h1 h2
  go_enter Tryz.func20, Tryz.ntmps20
  go_wp2_with fail
  refine (lower_l e _ he).mono ?_
  rintro r w1 ⟨rfl, x1⟩
  go_wp2
  go_ret
  exact ⟨rfl, x1⟩
end Go.Proofs.YtdjcjkpodggdpaaGreatDoor
