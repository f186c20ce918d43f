/- Rows of 32-bit words in a block; digest.begin; bits.RotateLeft32. digest.schedule: the words of the rounds. (*digest.state).process: a block is processed. (*strings.Builder).Write of a row of bytes; digest.begin. -/
import Derived.Test.YtfkjjhfoncckcaaGreatDoorVEntry
import Derived.Deep.MidRow
import Derived.Laws.Shifts
import Derived.Laws.Unary
import Derived.Test.YtfkjjhfoncckcaaGreatDoorVReader
import Derived.Lib.LaidTab
import Derived.Deep.QuietTactic
import Derived.BigQuiet
import Derived.Test.YtfkjjhfoncckcaaGreatDoorBldT
namespace Go.Proofs.YtfkjjhfoncckcaaGreatDoor
open Go.RowKit Go.Sort

/-- A word of a row. -/
def wd (ws : List Int) (i : Nat) : Int := ws.getD i 0
def wcells (ws : List Int) : List Value := ws.map (Value.int .u32)
theorem wcells_len (ws : List Int) : (wcells ws).length = ws.length := List.length_map _
theorem wcells_one (ws : List Int) : ∀ v ∈ wcells ws, v.oneCell' = true := by
  intro v hv
  obtain ⟨x, _, rfl⟩ := List.mem_map.1 hv
  rfl
theorem wd_set (ws : List Int) (i j : Nat) (v : Int) (h : i < ws.length) : wd (ws.set i v) j = if j = i then v else wd ws j := by
  unfold wd
  rw [List.getD_eq_getElem?_getD, List.getD_eq_getElem?_getD, List.getElem?_set]
  by_cases e : i = j
  · subst e; simp [h]
  · rw [if_neg e, if_neg (fun h => e h.symm)]
/-- A block of words. -/
def Words (W : World) (g : Nat) (t : TypeId) (ws : List Int) : Prop := W.heap[g]? = some (.cells (wcells ws).toArray t (0, 0))
section
variable {W W' : World} {g : Nat} {t : TypeId} {ws : List Int}
theorem Words.lt (h : Words W g t ws) : g < W.heap.size := (Array.getElem?_eq_some_iff.1 h).1
theorem Words.cell (h : Words W g t ws) (i : Nat) (hi : i < ws.length) : W.cell? ⟨g, i, none⟩ = some (.int .u32 (wd ws i)) := by
  rw [Lib.cell_of_heap h]
  simp [wcells, wd, hi]
theorem Words.frozen (h : Words W g t ws) (o : Nat) : W.frozen? ⟨g, o, none⟩ = false := by
  have h' : W.heap[g]? = some (.cells (wcells ws).toArray t (0, 0)) := h
  simp [World.frozen?, h']
theorem Words.put (h : Words W g t ws) (i : Nat) (v : Int) : Words (W.setCell ⟨g, i, none⟩ (.int .u32 v)) g t (ws.set i v) := by
  have := setCell_cs W g i (.int .u32 v) h
  unfold Words
  rw [this]
  congr 2
  rw [List.setIfInBounds_toArray]
  unfold wcells
  rw [List.map_set]
theorem Words.ext (h : Words W g t ws) (x : Ext W W') : Words W' g t ws := (x.heap h.lt).trans h
theorem Words.other (h : Words W g t ws) (b o : Nat) (v : Value) (hne : b ≠ g) : Words (W.setCell ⟨b, o, none⟩ v) g t ws := by
  unfold Words
  rw [show (W.setCell ⟨b, o, none⟩ v).heap[g]? = W.heap[g]? from by
    show (W.heap.modify b _)[g]? = _
    rw [Array.getElem?_modify, if_neg hne]]
  exact h
theorem Words.range (h : Words W g t ws) : W.rangeAt g 0 (wcells ws) := by
  intro j v hv
  have h' : W.heap[g]? = some (.cells (wcells ws).toArray t (0, 0)) := h
  rw [Nat.zero_add, Lib.cell_of_heap h']
  simpa using hv
theorem Words.there (h : Words W g t ws) : W.there g 0 ws.length := by
  intro j hj
  rw [Nat.zero_add]
  exact ⟨by rw [h.cell j hj]; rfl, h.frozen j⟩
theorem Words.of_new (w : World) (t : TypeId) (ws : List Int) : Words (w.alloc (.cells (wcells ws).toArray t)) w.heap.size t ws := heap_new w _
/-- A whole row is stored. -/
theorem Words.putAll (h : Words W g t ws) (us : List Int) (hl : us.length = ws.length) : Words (W.setCells g 0 (wcells us)) g t us := by
  have key : ∀ (vs pre suf : List Value) (V : World), V.heap[g]? = some (.cells (pre ++ suf).toArray t (0, 0)) → vs.length = suf.length → (V.setCells g pre.length vs).heap[g]? = some (.cells (pre ++ vs).toArray t (0, 0)) := by
    intro vs
    induction vs with
    | nil =>
      intro pre suf V hV hl
      obtain rfl : suf = [] := List.length_eq_zero_iff.1 hl.symm
      exact hV
    | cons v vs ih =>
      intro pre suf V hV hl
      cases suf with
      | nil => simp at hl
      | cons u suf =>
        rw [World.setCells]
        have h2 := setCell_cs V g pre.length v hV
        have h3 := ih (pre ++ [v]) suf (V.setCell ⟨g, pre.length, none⟩ v) (by
          rw [h2]
          congr 2
          rw [List.setIfInBounds_toArray]
          simp) (by simpa using hl)
        rw [List.length_append, List.length_singleton] at h3
        rw [h3, List.append_assoc]
        rfl
  exact key (wcells us) [] (wcells ws) W h (by rw [wcells_len, wcells_len, hl])
end
theorem Words.others8 {g : Nat} {t : TypeId} {ws : List Int} {b : Nat} (hne : b ≠ g) : ∀ (vs : List Value) (o : Nat) {W : World}, Words W g t ws → Words (W.setCells b o vs) g t ws
  | [], _, _, h => h
  | v :: r, o, _, h => by
    rw [World.setCells]
    exact Words.others8 hne r (o + 1) (h.other b o v hne)
theorem Ext.setCells {a : World} {g : Nat} (hg : a.heap.size ≤ g) : ∀ (vs : List Value) (o : Nat) (b : World), Ext a b → Ext a (b.setCells g o vs)
  | [], _, _, h => h
  | v :: r, o, b, h => by
    rw [World.setCells]
    exact Ext.setCells hg r (o + 1) _ (h.setCell (p := ⟨g, o, none⟩) hg v)
/-- The variable is read whole. -/
theorem Words.load {W : World} {g : Nat} {t : TypeId} {ws : List Int} (h : Words W g t ws) {d : TypeDesc} (hu : Tryz.prog.underlying t = some d) (hd : d.isRow = true) (hi : (Tryz.prog.info? t).map (·.size) = some ws.length) :
    (loadVar t ⟨g, 0, none⟩).run Tryz.prog W = .ok (.agg (wcells ws).toArray) W := run_loadVar_mid W g 0 t (wcells ws) d h.range hu hd (by rw [wcells_len]; exact hi)
/-- A rotation to the left. -/
def rotB (x s : Int) : Int := bits .or .u32 (x * 2 ^ s.toNat % 4294967296) (x / 2 ^ (32 - s).toNat)
set_option maxHeartbeats 1000000 in
set_option maxRecDepth 100000 in
theorem rot_any (x k s : Int) (w : World) (hk : bits .and .u64 (IntKind.u64.wrap k) 31 = s) (h0 : 0 ≤ s) (h1 : s ≤ 31) :
    Calls Tryz.prog 98 #[.int .u32 x, .int .i64 k] w fun e w' => e = .returned (.int .u32 (rotB x s)) ∧ w' = w := by
  go_enter Tryz.func98, Tryz.ntmps98
  go_wp2
  go_ret
  exact ⟨rfl, rfl⟩
end Go.Proofs.YtfkjjhfoncckcaaGreatDoor
namespace Go.Proofs.YtfkjjhfoncckcaaGreatDoor
open Go.RowKit Go.Sort

def byteI (l : List UInt8) (i : Nat) : Int := ((l.getD i 0).toNat : Int)
def stepA (blk : List UInt8) (i k : Nat) (ws : List Int) : List Int := ws.set i (bits .or .u32 (wd ws i * 256 % 4294967296) (byteI blk (4 * i + k) % 4294967296))
def schedK (blk : List UInt8) (i : Nat) (ws : List Int) : Nat → List Int
  | 0 => ws
  | k + 1 => stepA blk i k (schedK blk i ws k)
def schedI (blk : List UInt8) : Nat → List Int
  | 0 => List.replicate 64 0
  | i + 1 => schedK blk i (schedI blk i) 4
def s0B (x : Int) : Int := bits .xor .u32 (bits .xor .u32 (rotB x 25) (rotB x 14)) (x / 8)
def s1B (y : Int) : Int := bits .xor .u32 (bits .xor .u32 (rotB y 15) (rotB y 13)) (y / 1024)
def stepE (ws : List Int) (i : Nat) : List Int := ws.set i ((wd ws (i - 16) + s0B (wd ws (i - 15)) + wd ws (i - 7) + s1B (wd ws (i - 2))) % 4294967296)
def schedJ (blk : List UInt8) : Nat → List Int
  | 0 => schedI blk 16
  | j + 1 => stepE (schedJ blk j) (16 + j)
def schedB (blk : List UInt8) : List Int := schedJ blk 48
theorem schedK_len (blk : List UInt8) (i : Nat) (ws : List Int) : ∀ k, (schedK blk i ws k).length = ws.length
  | 0 => rfl
  | k + 1 => by rw [schedK, stepA, List.length_set, schedK_len blk i ws k]
theorem schedI_len (blk : List UInt8) : ∀ i, (schedI blk i).length = 64
  | 0 => List.length_replicate
  | i + 1 => by rw [schedI, schedK_len, schedI_len blk i]
theorem schedJ_len (blk : List UInt8) : ∀ j, (schedJ blk j).length = 64
  | 0 => schedI_len blk 16
  | j + 1 => by rw [schedJ, stepE, List.length_set, schedJ_len blk j]

set_option maxHeartbeats 2000000 in
set_option maxRecDepth 100000 in
theorem schedule_any (blk : List UInt8) (w : World) (hb : blk.length = 64) :
    Calls Tryz.prog 97 #[vstr blk] w fun e w' => e = .returned (.agg (wcells (schedB blk)).toArray) ∧ Ext w w' := by
  obtain ⟨g, hg⟩ : ∃ g, g = w.heap.size := ⟨_, rfl⟩
  go_enter Tryz.func97, Tryz.ntmps97
  go_wp2_with fail
  go_loopw [10] (fun t wr => ∃ i : Nat, i ≤ 16 ∧ t = .int .i64 i ∧ Words wr g 143 (schedI blk i) ∧ Ext w wr) (fun t _ => 16 - (intOf t).toNat)
  case atStart => exact ⟨0, Nat.zero_le _, rfl, by rw [hg]; exact heap_new w _, (Ext.refl w).alloc _⟩
  case round =>
    obtain ⟨i, hi, rfl, hW, hx⟩ := hrel
    have HW := Lib.hid hW
    have HX := Lib.hid hx
    clear hW hx
    by_cases hlt : i < 16
    · go_wp2_with fail
      go_loopw [13] (fun t wq => ∃ k : Nat, k ≤ 4 ∧ t = .int .i64 k ∧ Words wq g 143 (schedK blk i (schedI blk i) k) ∧ Ext w wq) (fun t _ => 4 - (intOf t).toNat)
      case atStart => exact ⟨0, Nat.zero_le _, rfl, HW.out, HX.out⟩
      case round =>
        obtain ⟨k, hk, rfl, hW, hx⟩ := hrel
        by_cases hk4 : k < 4
        · have hlen : (schedK blk i (schedI blk i) k).length = 64 := by rw [schedK_len, schedI_len]
          have hnext : stepA blk i k (schedK blk i (schedI blk i) k) = schedK blk i (schedI blk i) (k + 1) := rfl
          obtain ⟨ws, hws⟩ : ∃ ws, ws = schedK blk i (schedI blk i) k := ⟨_, rfl⟩
          rw [← hws] at hlen hnext hW
          obtain ⟨m, hm⟩ : ∃ m, m = 4 * i + k := ⟨_, rfl⟩
          have hml : m < blk.length := by omega
          have em : 4 * (i : Int) + (k : Int) = (m : Int) := by omega
          have hbyte : ((⟨blk.toArray⟩ : ByteArray)[m]'hml) = blk[m] := rfl
          have hbI : byteI blk (4 * i + k) = (blk[m].toNat : Int) := by rw [← hm, byteI, List.getD_eq_getElem?_getD, List.getElem?_eq_getElem hml]; rfl
          obtain ⟨c, hc⟩ : ∃ c, c = blk[m] := ⟨_, rfl⟩
          rw [← hc] at hbyte hbI
          have cl := hW.cell i (by omega)
          have fz := hW.frozen i
          have hput := hW.put i (bits .or .u32 (wd ws i * 256 % 4294967296) ((c.toNat : Int) % 4294967296))
          rw [show ws.set i (bits .or .u32 (wd ws i * 256 % 4294967296) ((c.toNat : Int) % 4294967296)) = schedK blk i (schedI blk i) (k + 1) from by rw [← hnext, stepA, hbI]] at hput
          have HP := Lib.hid hput
          have HX2 := Lib.hid hx
          clear hput hx hW hnext hws hc hbI hm HW HX
          subst hg
          go_upto_region 7 with fail
          go_region
          all_goals
            go_wp2
            go_roundw
            case rel => exact ⟨k + 1, by omega, by go_num, HP.out, (HX2.out.setCell (p := ⟨w.heap.size, i, none⟩) (Nat.le_refl _) _).drew⟩
            case measure => simp [intOf]; omega
        · obtain rfl : k = 4 := by omega
          have HW2 := Lib.hid hW
          have HX2 := Lib.hid hx
          clear hW hx HW HX
          go_wp2_with fail
          go_roundw
          case rel => exact ⟨i + 1, by omega, by go_num, HW2.out, HX2.out⟩
          case measure => simp [intOf]; omega
    · obtain rfl : i = 16 := by omega
      go_wp2_with fail
      go_loopw [5] (fun t wq => ∃ m j : Nat, j ≤ 48 ∧ m = j + 16 ∧ t = .int .i64 m ∧ Words wq g 143 (schedJ blk j) ∧ Ext w wq) (fun t _ => 64 - (intOf t).toNat)
      case atStart => exact ⟨16, 0, Nat.zero_le _, rfl, rfl, HW.out, HX.out⟩
      case round =>
        obtain ⟨m, j, hj, hm, rfl, hW, hx⟩ := hrel
        clear HW HX
        by_cases hlt : m < 64
        · have hlen := schedJ_len blk j
          have hnext : stepE (schedJ blk j) (16 + j) = schedJ blk (j + 1) := rfl
          obtain ⟨ws, hws⟩ : ∃ ws, ws = schedJ blk j := ⟨_, rfl⟩
          rw [← hws] at hlen hnext hW
          have hl16 := hW.cell (m - 16) (by omega)
          have hl15 := hW.cell (m - 15) (by omega)
          have hl7 := hW.cell (m - 7) (by omega)
          have hl2 := hW.cell (m - 2) (by omega)
          rw [show 16 + j = m by omega, stepE] at hnext
          have n16 : 0 ≤ (m : Int) - 16 := by omega
          have k16 : (m : Int) - 16 < 64 := by omega
          obtain ⟨q16, e16⟩ : ∃ q, q = m - 16 := ⟨_, rfl⟩
          obtain ⟨q15, e15⟩ : ∃ q, q = m - 15 := ⟨_, rfl⟩
          obtain ⟨q7, e7⟩ : ∃ q, q = m - 7 := ⟨_, rfl⟩
          obtain ⟨q2, e2⟩ : ∃ q, q = m - 2 := ⟨_, rfl⟩
          have i16 : (m : Int) - 16 = (q16 : Int) := by omega
          have i15 : (m : Int) - 15 = (q15 : Int) := by omega
          have i7 : (m : Int) - 7 = (q7 : Int) := by omega
          have i2 : (m : Int) - 2 = (q2 : Int) := by omega
          rw [← e16] at hl16 hnext
          rw [← e15] at hl15 hnext
          rw [← e7] at hl7 hnext
          rw [← e2] at hl2 hnext
          have w16 : IntKind.i64.wrap ((m : Int) - 16) = (q16 : Int) := by rw [i16]; exact wrap_small _ (by omega) (by omega)
          have w15 : IntKind.i64.wrap ((m : Int) - 15) = (q15 : Int) := by rw [i15]; exact wrap_small _ (by omega) (by omega)
          have w7 : IntKind.i64.wrap ((m : Int) - 7) = (q7 : Int) := by rw [i7]; exact wrap_small _ (by omega) (by omega)
          have w2 : IntKind.i64.wrap ((m : Int) - 2) = (q2 : Int) := by rw [i2]; exact wrap_small _ (by omega) (by omega)
          have z16 : (0 : Int) ≤ (q16 : Int) ∧ (q16 : Int) < 64 := by omega
          have z15 : (0 : Int) ≤ (q15 : Int) ∧ (q15 : Int) < 64 := by omega
          have z7 : (0 : Int) ≤ (q7 : Int) ∧ (q7 : Int) < 64 := by omega
          have z2 : (0 : Int) ≤ (q2 : Int) ∧ (q2 : Int) < 64 := by omega
          obtain ⟨z16a, z16b⟩ := z16
          obtain ⟨z15a, z15b⟩ := z15
          obtain ⟨z7a, z7b⟩ := z7
          obtain ⟨z2a, z2b⟩ := z2
          clear i16 i15 i7 i2
          have b16 : q16 < 64 := by omega
          have b15 : q15 < 64 := by omega
          have b7 : q7 < 64 := by omega
          have b2 : q2 < 64 := by omega
          obtain ⟨x16, g16⟩ : ∃ x, x = wd ws q16 := ⟨_, rfl⟩
          obtain ⟨x15, g15⟩ : ∃ x, x = wd ws q15 := ⟨_, rfl⟩
          obtain ⟨x7, g7⟩ : ∃ x, x = wd ws q7 := ⟨_, rfl⟩
          obtain ⟨x2, g2⟩ : ∃ x, x = wd ws q2 := ⟨_, rfl⟩
          rw [← g16] at hl16 hnext
          rw [← g15] at hl15 hnext
          rw [← g7] at hl7 hnext
          rw [← g2] at hl2 hnext
          have fz := hW.frozen m
          have cm := hW.cell m (by omega)
          have hput := hW.put m ((x16 + s0B x15 + x7 + s1B x2) % 4294967296)
          rw [hnext] at hput
          have HP := Lib.hid hput
          have HX2 := Lib.hid hx
          have Hm := Lib.hid hm
          clear hput hnext hws hW hx e16 e15 e7 e2 g16 g15 g7 g2 n16 k16 hlen hm
          subst hg
          go_upto_region 13 with fail
          go_quiet (fail)
          go_wp2_with fail
          refine (rot_any x15 (-7) 25 _ (by decide) (by decide) (by decide)).mono ?_
          rintro e w1 ⟨rfl, rfl⟩
          go_wp2_with fail
          refine (rot_any x15 (-18) 14 _ (by decide) (by decide) (by decide)).mono ?_
          rintro e w1 ⟨rfl, rfl⟩
          go_wp2_with fail
          refine (rot_any x2 (-17) 15 _ (by decide) (by decide) (by decide)).mono ?_
          rintro e w1 ⟨rfl, rfl⟩
          go_wp2_with fail
          refine (rot_any x2 (-19) 13 _ (by decide) (by decide) (by decide)).mono ?_
          rintro e w1 ⟨rfl, rfl⟩
          go_upto_region 16 with fail
          go_region
          all_goals
            go_wp2
            refine ⟨?_, ?measure⟩
            iterate 48 (apply Exists.intro)
            refine ⟨?rel, rfl⟩
            case rel => exact ⟨m + 1, j + 1, by have := Hm.out; omega, by have := Hm.out; omega, by go_num, HP.out, (HX2.out.drewN _).setCell (p := ⟨w.heap.size, m, none⟩) (Nat.le_refl _) _⟩
            case measure => simp [intOf]; omega
        · obtain rfl : j = 48 := by omega
          obtain rfl : m = 64 := by omega
          have hlen := schedJ_len blk 48
          have hinfo : (Tryz.prog.info? 143).map (·.size) = some (wcells (schedJ blk 48)).length := by rw [wcells_len, hlen]; kernel_rfl
          have hinfo2 : (Tryz.prog.info? 143).map (·.size) = some (wcells (schedJ blk 48)).toArray.size := by simpa using hinfo
          have HW2 := Lib.hid hW
          have HX2 := Lib.hid hx
          have HI := Lib.hid (And.intro hinfo hinfo2)
          clear hW hx hinfo hinfo2
          subst hg
          go_upto_region 17 with fail
          refine wp_region_lit ?_
          refine wpList_load_mid (by rfl) 143 (.tmp 2) (by rfl) w.heap.size 0 (by rfl) (wcells (schedJ blk 48)) _ HW2.out.range Tryz.underlying143 rfl HI.out.1 ?_
          refine wpList_store_mid (by rfl) 143 (.tmp 2) (.tmp 75) (by rfl) w.heap.size 0 (wcells (schedJ blk 48)).toArray (by rfl) (by rfl) (by simpa [wcells_len] using HW2.out.there) HI.out.2 (all_oneCell_toArray (wcells_one _)) ?_
          simp only [Act.put]
          go_wp2_with fail
          refine bodyPost_ret (v := .agg (wcells (schedJ blk 48)).toArray) (results_cell_row rfl _ _ w.heap.size 143 (wcells (schedJ blk 48)).toArray (0, 0) _ rfl (HW2.out.putAll (schedJ blk 48) rfl) Tryz.underlying143 rfl HI.out.2) rfl ⟨rfl, HX2.out.setCells (Nat.le_refl _) _ _ _⟩
end Go.Proofs.YtfkjjhfoncckcaaGreatDoor
namespace Go.Proofs.YtfkjjhfoncckcaaGreatDoor
open Go.RowKit Go.Sort

def constTab : List Int := [0x428a2f98, 0x71374491, 0xb5c0fbcf, 0xe9b5dba5, 0x3956c25b, 0x59f111f1, 0x923f82a4, 0xab1c5ed5,
  0xd807aa98, 0x12835b01, 0x243185be, 0x550c7dc3, 0x72be5d74, 0x80deb1fe, 0x9bdc06a7, 0xc19bf174,
  0xe49b69c1, 0xefbe4786, 0x0fc19dc6, 0x240ca1cc, 0x2de92c6f, 0x4a7484aa, 0x5cb0a9dc, 0x76f988da,
  0x983e5152, 0xa831c66d, 0xb00327c8, 0xbf597fc7, 0xc6e00bf3, 0xd5a79147, 0x06ca6351, 0x14292967,
  0x27b70a85, 0x2e1b2138, 0x4d2c6dfc, 0x53380d13, 0x650a7354, 0x766a0abb, 0x81c2c92e, 0x92722c85,
  0xa2bfe8a1, 0xa81a664b, 0xc24b8b70, 0xc76c51a3, 0xd192e819, 0xd6990624, 0xf40e3585, 0x106aa070,
  0x19a4c116, 0x1e376c08, 0x2748774c, 0x34b0bcb5, 0x391c0cb3, 0x4ed8aa4a, 0x5b9cca4f, 0x682e6ff3,
  0x748f82ee, 0x78a5636f, 0x84c87814, 0x8cc70208, 0x90befffa, 0xa4506ceb, 0xbef9a3f7, 0xc67178f2]
/-- The table of the rounds' constants. -/
def Cons (w : World) : Prop := Lib.TabIs Tryz.prog w "missive/digest.constants" .u32 constTab
theorem g_cons : Tryz.prog.globalNamed "missive/digest.constants" = some 0 := by kernel_rfl
theorem Cons.of_block {w w' : World} (h : Cons w) (hb : w'.heap[0]? = w.heap[0]?) : Cons w' := by
  unfold Cons Lib.TabIs World.var? at *
  rw [g_cons] at h ⊢
  simp only [Option.bind_some] at h ⊢
  rw [hb]
  exact h
theorem Cons.lt {w : World} (h : Cons w) : 0 < w.heap.size := by
  refine Nat.lt_of_not_le fun hn => ?_
  unfold Cons Lib.TabIs World.var? at h
  rw [g_cons] at h
  simp [Array.getElem?_eq_none hn] at h
theorem Cons.ext {w w' : World} (h : Cons w) (x : Ext w w') : Cons w' := h.of_block (x.heap h.lt)
theorem Cons.cell {w : World} (h : Cons w) (i : Nat) (hi : i < 64) : w.cell? ⟨0, i, none⟩ = some (.int .u32 (wd constTab i)) := by
  have := Lib.TabIs.cell h g_cons i hi
  rw [this]
  rfl

def S0B (a : Int) : Int := bits .xor .u32 (bits .xor .u32 (rotB a 30) (rotB a 19)) (rotB a 10)
def S1B (e : Int) : Int := bits .xor .u32 (bits .xor .u32 (rotB e 26) (rotB e 21)) (rotB e 7)
def chB (e f g : Int) : Int := bits .xor .u32 (bits .and .u32 e f) (bits .and .u32 (bits .xor .u32 IntKind.u32.max e) g)
def majB (a b c : Int) : Int := bits .xor .u32 (bits .xor .u32 (bits .and .u32 a b) (bits .and .u32 a c)) (bits .and .u32 b c)
def xB (t : List Int) (k w : Int) : Int := (wd t 7 + S1B (wd t 4) + chB (wd t 4) (wd t 5) (wd t 6) + k + w) % 4294967296
def yB (t : List Int) : Int := (S0B (wd t 0) + majB (wd t 0) (wd t 1) (wd t 2)) % 4294967296
def roundB (t : List Int) (k w : Int) : List Int := [(xB t k w + yB t) % 4294967296, wd t 0, wd t 1, wd t 2, (wd t 3 + xB t k w) % 4294967296, wd t 4, wd t 5, wd t 6]
def roundsB (ws t : List Int) : Nat → List Int
  | 0 => t
  | i + 1 => roundB (roundsB ws t i) (wd constTab i) (wd ws i)
def addB (h t : List Int) : Nat → List Int
  | 0 => h
  | i + 1 => (addB h t i).set i ((wd (addB h t i) i + wd t i) % 4294967296)
/-- The state behind a block. -/
def procB (h : List Int) (blk : List UInt8) : List Int := addB h (roundsB (schedB blk) h 64) 8
theorem roundsB_len (ws t : List Int) (ht : t.length = 8) : ∀ i, (roundsB ws t i).length = 8
  | 0 => ht
  | _ + 1 => rfl
theorem addB_len (h t : List Int) : ∀ i, (addB h t i).length = h.length
  | 0 => rfl
  | i + 1 => by rw [addB, List.length_set, addB_len h t i]
theorem procB_len (h : List Int) (blk : List UInt8) (hh : h.length = 8) : (procB h blk).length = 8 := by rw [procB, addB_len, hh]

theorem But.drewN {p : Nat} {a b : World} (h : But p a b) (n : Nat) : But p a (b.drewN n) := ⟨h.os, h.tape, h.output, h.size, h.block⟩
theorem But.drew {p : Nat} {a b : World} (h : But p a b) : But p a b.drew := ⟨h.os, h.tape, h.output, h.size, h.block⟩
set_option maxHeartbeats 4000000 in
set_option maxRecDepth 100000 in
theorem process_any (g : Nat) (hs : List Int) (blk : List UInt8) (w : World) (hW : Words w g 124 hs) (h8 : hs.length = 8) (hb : blk.length = 64) (hC : Cons w) :
    Calls Tryz.prog 76 #[.pointer (some ⟨g, 0, none⟩), vstr blk] w fun e w' => e = .returned (.tuple #[]) ∧ Words w' g 124 (procB hs blk) ∧ But g w w' := by
  obtain ⟨ws, hws⟩ : ∃ ws, ws = schedB blk := ⟨_, rfl⟩
  have hl : ws.length = 64 := by rw [hws]; exact schedJ_len blk 48
  have hi64 : (Tryz.prog.info? 143).map (·.size) = some (wcells ws).toArray.size := by
    rw [List.size_toArray, wcells_len, hl]
    kernel_rfl
  have hi8 : (Tryz.prog.info? 124).map (·.size) = some (wcells hs).length := by
    rw [wcells_len, h8]
    kernel_rfl
  have hi8' : (Tryz.prog.info? 124).map (·.size) = some (wcells hs).toArray.size := by simpa using hi8
  have hall := all_oneCell_toArray (wcells_one ws)
  have hall8 := all_oneCell_toArray (wcells_one hs)
  have HI := Lib.hid (And.intro hi64 (And.intro hi8 (And.intro hi8' (And.intro hall hall8))))
  have Hws := Lib.hid hws
  have HW := Lib.hid hW
  have HC := Lib.hid hC
  clear hi64 hi8 hi8' hall hall8 hws hW hC
  go_enter Tryz.func76, Tryz.ntmps76
  go_upto_region 0 with fail
  go_cut [4] (fun t wx => ∃ g4, t = .pointer (some ⟨g4, 0, none⟩) ∧ w.heap.size ≤ g4 ∧ Words wx g4 143 ws ∧ Ext w wx)
  case first =>
    go_wp2_with fail
    refine (schedule_any blk _ hb).mono ?_
    rintro e w1 ⟨rfl, x1⟩
    rw [← Hws.out]
    have X1 := Lib.hid x1
    obtain ⟨g4, hg4⟩ : ∃ g4, g4 = w1.heap.size := ⟨_, rfl⟩
    have hgl : w.heap.size ≤ g4 := by rw [hg4]; exact x1.size
    have hZ : Words (w1.alloc (.cells (wcells (List.replicate 64 0)).toArray 143)) g4 143 (List.replicate 64 0) := by rw [hg4]; exact heap_new w1 _
    have HZ := Lib.hid hZ
    clear x1 hZ
    go_wp2_with (refine wpList_store_mid (by rfl) 143 (.tmp 4) (.tmp 17) (by rfl) g4 0 (wcells ws).toArray (by rw [hg4]; rfl) (by rfl) (by rw [List.size_toArray, wcells_len, hl]; exact HZ.out.there) HI.out.1 HI.out.2.2.2.1 ?_)
    go_meet
    exact ⟨g4, by rw [hg4], hgl, HZ.out.putAll ws hl, (X1.out.alloc _).setCells hgl _ _ _⟩
  case rest =>
  obtain ⟨g4, rfl, hg4, hw4, hx⟩ := hcut
  have H4 := Lib.hid hw4
  have X2 := Lib.hid hx
  have hsz := Nat.lt_of_lt_of_le HW.out.lt hx.size
  clear hw4 hx
  go_upto_region 1 with fail
  go_cut [5] (fun t wx => ∃ g5, t = .pointer (some ⟨g5, 0, none⟩) ∧ w.heap.size ≤ g5 ∧ g5 ≠ g4 ∧ Words wx g4 143 ws ∧ Words wx g5 124 hs ∧ Ext w wx)
  case first =>
    obtain ⟨g5, hg5⟩ : ∃ g5, g5 = wc.heap.size := ⟨_, rfl⟩
    have hgl : w.heap.size ≤ g5 := by rw [hg5]; exact X2.out.size
    have hZ : Words (wc.alloc (.cells (wcells (List.replicate 8 0)).toArray 124)) g5 124 (List.replicate 8 0) := by rw [hg5]; exact heap_new wc _
    have HZ := Lib.hid hZ
    have hW2 := HW.out.ext X2.out
    have HW2 := Lib.hid hW2
    have h45 : g5 ≠ g4 := by have := H4.out.lt; omega
    clear hZ hW2
    go_wp2_with (first
      | (refine wpList_load_mid (by rfl) 124 (.tmp 19) (by rfl) g 0 (by rfl) (wcells hs) _ HW2.out.range Tryz.underlying124 rfl HI.out.2.1 ?_)
      | (refine wpList_store_mid (by rfl) 124 (.tmp 5) (.tmp 20) (by rfl) g5 0 (wcells hs).toArray (by rw [hg5]; rfl) (by rfl) (by rw [List.size_toArray, wcells_len, h8]; exact HZ.out.there) HI.out.2.2.1 HI.out.2.2.2.2 ?_))
    go_meet
    subst hg5
    refine ⟨wc.heap.size, rfl, hgl, h45, ?_, HZ.out.putAll hs h8, (X2.out.alloc _).setCells hgl _ _ _⟩
    exact Words.others8 h45 _ _ (H4.out.ext ((Ext.refl wc).alloc _))
  case rest =>
  obtain ⟨g5, rfl, hg5, h45, hw4, hw5, hx⟩ := hcut
  have W4 := Lib.hid hw4
  have W5 := Lib.hid hw5
  have X3 := Lib.hid hx
  clear hw4 hw5 hx H4 X2 hsz
  go_wp2_with fail
  go_loopw [21] (fun t wq => ∃ i : Nat, i ≤ 64 ∧ t = .int .i64 i ∧ Words wq g4 143 ws ∧ Words wq g5 124 (roundsB ws hs i) ∧ Ext w wq) (fun t _ => 64 - (intOf t).toNat)
  case atStart => exact ⟨0, Nat.zero_le _, rfl, W4.out, W5.out, X3.out⟩
  case round =>
    obtain ⟨i, hi, rfl, hw4, hw5, hx⟩ := hrel
    clear W4 W5 X3
    by_cases hlt : i < 64
    · have hlen := roundsB_len ws hs h8 i
      have hnext : roundB (roundsB ws hs i) (wd constTab i) (wd ws i) = roundsB ws hs (i + 1) := rfl
      obtain ⟨st, hst⟩ : ∃ st, st = roundsB ws hs i := ⟨_, rfl⟩
      rw [← hst] at hlen hnext hw5
      have HN := Lib.hid hnext
      have W4 := Lib.hid hw4
      have W5 := Lib.hid hw5
      have X4 := Lib.hid hx
      have c0 := hw5.cell 0 (by omega)
      have c1 := hw5.cell 1 (by omega)
      have c2 := hw5.cell 2 (by omega)
      have c4 := hw5.cell 4 (by omega)
      have c5 := hw5.cell 5 (by omega)
      have c6 := hw5.cell 6 (by omega)
      clear hnext hst hw4 hw5 hx
      go_upto_region 5 with fail
      go_cut [7, 8, 9, 10, 11, 12] (fun a b c e f h wx => a = .int .u32 (wd st 0) ∧ b = .int .u32 (wd st 1) ∧ c = .int .u32 (wd st 2) ∧ e = .int .u32 (wd st 4) ∧ f = .int .u32 (wd st 5) ∧ h = .int .u32 (wd st 6) ∧
        Words wx g4 143 ws ∧ Words wx g5 124 st ∧ Ext w wx)
      case first =>
        go_quiet (fail)
        go_wp2_with fail
        go_meet
        exact ⟨rfl, rfl, rfl, rfl, rfl, rfl, W4.out, W5.out, X4.out.drewN _⟩
      case rest =>
      obtain ⟨rfl, rfl, rfl, rfl, rfl, rfl, hw4, hw5, hx⟩ := hcut
      clear W4 W5 X4 c0 c1 c2 c4 c5 c6
      have W4 := Lib.hid hw4
      have W5 := Lib.hid hw5
      have X4 := Lib.hid hx
      have d7 := hw5.cell 7 (by omega)
      have dw := hw4.cell i (by omega)
      have dc := (HC.out.ext hx).cell i hlt
      clear hw4 hw5 hx
      have z0 : (0 : Int) ≤ (i : Int) := by omega
      have z1 : (i : Int) < 64 := by omega
      obtain ⟨kc, hkc⟩ : ∃ kc, kc = wd constTab i := ⟨_, rfl⟩
      obtain ⟨kw, hkw⟩ : ∃ kw, kw = wd ws i := ⟨_, rfl⟩
      rw [← hkc] at dc HN
      rw [← hkw] at dw HN
      obtain ⟨s0, k0⟩ : ∃ x, x = wd st 0 := ⟨_, rfl⟩
      obtain ⟨s1, k1⟩ : ∃ x, x = wd st 1 := ⟨_, rfl⟩
      obtain ⟨s2, k2⟩ : ∃ x, x = wd st 2 := ⟨_, rfl⟩
      obtain ⟨s4, k4⟩ : ∃ x, x = wd st 4 := ⟨_, rfl⟩
      obtain ⟨s5, k5⟩ : ∃ x, x = wd st 5 := ⟨_, rfl⟩
      obtain ⟨s6, k6⟩ : ∃ x, x = wd st 6 := ⟨_, rfl⟩
      obtain ⟨s7, k7⟩ : ∃ x, x = wd st 7 := ⟨_, rfl⟩
      obtain ⟨x, hxx⟩ : ∃ x, x = xB st kc kw := ⟨_, rfl⟩
      obtain ⟨y, hyy⟩ : ∃ y, y = yB st := ⟨_, rfl⟩
      have HK := Lib.hid (And.intro k0 (And.intro k1 (And.intro k2 (And.intro k4 (And.intro k5 (And.intro k6 k7))))))
      have HXX := Lib.hid hxx
      have HYY := Lib.hid hyy
      rw [← k7] at d7
      rw [← k0, ← k1, ← k2, ← k4, ← k5, ← k6]
      clear k0 k1 k2 k4 k5 k6 k7 hkc hkw hxx hyy
      go_upto_region 6 with fail
      go_cut [13] (fun a wx => a = .int .u32 x ∧ Words wx g4 143 ws ∧ Words wx g5 124 st ∧ Ext w wx)
      case first =>
        have r6 := fun W => rot_any s4 (-6) 26 W (by decide) (by decide) (by decide)
        have r11 := fun W => rot_any s4 (-11) 21 W (by decide) (by decide) (by decide)
        have r25 := fun W => rot_any s4 (-25) 7 W (by decide) (by decide) (by decide)
        have R := Lib.hid (And.intro r6 (And.intro r11 r25))
        clear r6 r11 r25
        go_quiet ((go_at_call 98; first
          | (with_reducible exact Calls.quiet_of_same (R.out.1 _))
          | (with_reducible exact Calls.quiet_of_same (R.out.2.1 _))
          | (with_reducible exact Calls.quiet_of_same (R.out.2.2 _))))
        go_wp2_with fail
        go_meet
        refine ⟨?_, W4.out, W5.out, X4.out.drewN _⟩
        rw [HXX.out, xB, S1B, chB, ← HK.out.2.2.2.1, ← HK.out.2.2.2.2.1, ← HK.out.2.2.2.2.2.1, ← HK.out.2.2.2.2.2.2]
      case rest =>
      obtain ⟨rfl, hw4, hw5, hx⟩ := hcut
      clear W4 W5 X4 d7 dw dc
      obtain ⟨s3, k3⟩ : ∃ x, x = wd st 3 := ⟨_, rfl⟩
      have d3 := hw5.cell 3 (by omega)
      rw [← k3] at d3
      have hT : [(x + y) % 4294967296, s0, s1, s2, (s3 + x) % 4294967296, s4, s5, s6] = roundsB ws hs (i + 1) := by
        rw [← HN.out, roundB, ← HXX.out, ← HYY.out, HK.out.1, HK.out.2.1, HK.out.2.2.1, k3, HK.out.2.2.2.1, HK.out.2.2.2.2.1, HK.out.2.2.2.2.2.1]
      have hy : (bits .xor .u32 (bits .xor .u32 (rotB s0 30) (rotB s0 19)) (rotB s0 10) + bits .xor .u32 (bits .xor .u32 (bits .and .u32 s0 s1) (bits .and .u32 s0 s2)) (bits .and .u32 s1 s2)) % 4294967296 = y := by
        rw [HYY.out, yB, S0B, majB, ← HK.out.1, ← HK.out.2.1, ← HK.out.2.2.1]
      have HT := Lib.hid hT
      have W4 := Lib.hid hw4
      have W5 := Lib.hid hw5
      have X4 := Lib.hid hx
      have hi8 : (Tryz.prog.info? 124).map (·.size) = some (wcells [(x + y) % 4294967296, s0, s1, s2, (s3 + x) % 4294967296, s4, s5, s6]).toArray.size := by
        rw [List.size_toArray, wcells_len]
        kernel_rfl
      have HI8 := Lib.hid hi8
      have hall8 := all_oneCell_toArray (wcells_one [(x + y) % 4294967296, s0, s1, s2, (s3 + x) % 4294967296, s4, s5, s6])
      have HA8 := Lib.hid hall8
      clear hT hw4 hw5 hx k3 hi8 hall8
      go_wp2_with fail
      refine (rot_any s0 (-2) 30 _ (by decide) (by decide) (by decide)).mono ?_
      rintro e w1 ⟨rfl, rfl⟩
      go_wp2_with fail
      refine (rot_any s0 (-13) 19 _ (by decide) (by decide) (by decide)).mono ?_
      rintro e w1 ⟨rfl, rfl⟩
      go_wp2_with fail
      refine (rot_any s0 (-22) 10 _ (by decide) (by decide) (by decide)).mono ?_
      rintro e w1 ⟨rfl, rfl⟩
      go_wp2_with (refine wpList_store_mid (by rfl) 124 (.tmp 5) (.tmp 97) (by rfl) g5 0 (wcells [(x + y) % 4294967296, s0, s1, s2, (s3 + x) % 4294967296, s4, s5, s6]).toArray (by rfl) (by rfl) (by rw [List.size_toArray, wcells_len]; have h := W5.out.there; rwa [hlen] at h) HI8.out HA8.out ?_)
      refine ⟨⟨i + 1, by omega, by go_num, Words.others8 h45 _ _ W4.out, ?_, X4.out.setCells hg5 _ _ _⟩, by simp [intOf]; omega⟩
      have h := W5.out.putAll [(x + y) % 4294967296, s0, s1, s2, (s3 + x) % 4294967296, s4, s5, s6] (by rw [hlen]; rfl)
      rw [HT.out] at h ⊢
      exact h
    · obtain rfl : i = 64 := by omega
      have hPB : procB hs blk = addB hs (roundsB ws hs 64) 8 := by rw [Hws.out]; rfl
      have HPB := Lib.hid hPB
      have hlen := roundsB_len ws hs h8 64
      obtain ⟨tt, htt⟩ : ∃ tt, tt = roundsB ws hs 64 := ⟨_, rfl⟩
      rw [← htt] at hw5 hlen HPB
      have W0 := Lib.hid (HW.out.ext hx)
      have W5 := Lib.hid hw5
      have B0 := Lib.hid (But.of_ext (p := g) hx)
      have hgg : g ≠ g5 := by have := HW.out.lt; omega
      clear hPB htt hw4 hw5 hx
      go_wp2_with fail
      go_loopw [99] (fun t wq => ∃ j : Nat, j ≤ 8 ∧ t = .int .i64 j ∧ Words wq g 124 (addB hs tt j) ∧ Words wq g5 124 tt ∧ But g w wq) (fun t _ => 8 - (intOf t).toNat)
      case atStart => exact ⟨0, Nat.zero_le _, rfl, W0.out, W5.out, B0.out⟩
      case round =>
        obtain ⟨j, hj, rfl, hw0, hw5, hb0⟩ := hrel
        clear W0 W5 B0
        by_cases hlt : j < 8
        · have hl0 := addB_len hs tt j
          rw [h8] at hl0
          have hnext : (addB hs tt j).set j ((wd (addB hs tt j) j + wd tt j) % 4294967296) = addB hs tt (j + 1) := rfl
          obtain ⟨hh, hhh⟩ : ∃ hh, hh = addB hs tt j := ⟨_, rfl⟩
          rw [← hhh] at hw0 hl0 hnext
          have c0 := hw0.cell j (by omega)
          have c5 := hw5.cell j (by omega)
          have f0 := hw0.frozen j
          have z0 : (0 : Int) ≤ (j : Int) := by omega
          have z1 : (j : Int) < 8 := by omega
          obtain ⟨a, ha⟩ : ∃ a, a = wd hh j := ⟨_, rfl⟩
          obtain ⟨b, hb⟩ : ∃ b, b = wd tt j := ⟨_, rfl⟩
          rw [← ha] at c0 hnext
          rw [← hb] at c5 hnext
          have P0 := Lib.hid (hw0.put j ((a + b) % 4294967296))
          have P5 := Lib.hid (hw5.other g j (.int .u32 ((a + b) % 4294967296)) hgg)
          have PB := Lib.hid (hb0.trans (But.setCell g j wr (.int .u32 ((a + b) % 4294967296))))
          have HN := Lib.hid hnext
          clear hw0 hw5 hb0 hnext hhh ha hb
          go_upto_region 13 with fail
          go_region
          all_goals
            go_wp2
            go_roundw
            case rel => exact ⟨j + 1, by omega, by go_num, by rw [← HN.out]; exact P0.out, P5.out, PB.out.drew⟩
            case measure => simp [intOf]; omega
        · obtain rfl : j = 8 := by omega
          have FI := Lib.hid (And.intro hw0 hb0)
          rw [← HPB.out] at FI
          clear hw0 hb0 hw5
          go_wp2_with fail
          go_end0
          exact ⟨rfl, FI.out⟩
end Go.Proofs.YtfkjjhfoncckcaaGreatDoor
namespace Go.Proofs.YtfkjjhfoncckcaaGreatDoor
open Go.RowKit Go.Sort

theorem copyCheck_c {T : TypeId} (hT : LiesT T) (B b : Nat) (bs : List Value) (w : World) (h : Lib.IsBuilderF T 5 B b bs w) :
    Calls Tryz.prog 84 #[.pointer (some ⟨b, 0, none⟩)] w fun e w' => e = .returned (.tuple #[]) ∧ (Lib.BuilderAtF T 5 B b (.pointer (some ⟨b, 0, none⟩)) bs w' ∧ Below B w w' ∧ ∀ k, k ≠ b → w'.heap[k]? = w.heap[k]?) := by
  rcases h with h | h
  · refine (copyCheck_fresh hT b w h.cell0 h.shape h.frozen0).mono ?_
    rintro e w' ⟨rfl, rfl⟩
    exact ⟨rfl, h.used _, (Below.refl B w).setCell (p := ⟨b, 0, none⟩) h.1 _, fun k hk => Below.heap_setCell w ⟨b, 0, none⟩ _ k hk⟩
  · refine (copyCheck_used b w h.cell0).mono ?_
    rintro e w' ⟨rfl, rfl⟩
    exact ⟨rfl, h, Below.refl B _, fun _ _ => rfl⟩
set_option maxHeartbeats 2000000 in
set_option maxRecDepth 100000 in
theorem write_k {T : TypeId} (hT : LiesT T) (B b : Nat) (bs : List Value) (c n cap : Nat) (ps : List Value) (w : World) (h : Lib.IsBuilderF T 5 B b bs w) (hn : ps.length = n) (hp : ∀ j u, ps[j]? = some u → w.cell? ⟨c, j, none⟩ = some u) (h1 : ∀ u ∈ ps, u.oneCell' = true) (hcb : c ≠ b) (hnn : 0 < n)
    (hlen : bs.length + n ≤ 140737488355328) (hBw : B ≤ w.heap.size) :
    Calls Tryz.prog 77 #[.pointer (some ⟨b, 0, none⟩), .slice (some ⟨c, 0, none⟩) n cap] w fun e w' => e = .returned (.tuple #[.int .i64 n, .nilIface]) ∧
      (Lib.IsBuilderF T 5 B b (bs ++ ps) w' ∧ Below B w w') := by
  obtain ⟨i0, hi, hz0, hz1, hz2⟩ := info_parts infoByte
  have Hp := Lib.hid hp
  have H1 := Lib.hid h1
  have hcl : c < w.heap.size := by
    have h0 := hp 0 ps[0] (List.getElem?_eq_getElem (by omega))
    exact lt_of_cell h0
  clear hp h1
  go_enter Tryz.func77, Tryz.ntmps77
  go_wp2_with (go_at_call 84; refine (copyCheck_c hT B b bs _ h).mono ?_)
  rintro e w1 ⟨rfl, h1, hb1, hk1⟩
  obtain ⟨hB, v, hbk, hown, hne⟩ := h1
  have c0 : w1.cell? ⟨b, 0, none⟩ = some (.pointer (some ⟨b, 0, none⟩)) := by rw [Lib.cell_of_heap hbk]; rfl
  have c1 : w1.cell? ⟨b, 1, none⟩ = some v := by rw [Lib.cell_of_heap hbk]; rfl
  have hc1 : Hid (∀ j u, ps[j]? = some u → w1.cell? ((⟨c, 0, none⟩ : Addr).add j) = some u) := Lib.hid (fun j u hj => by
    rw [addr_add0]
    have h2 := Hp.out j u hj
    unfold World.cell? at h2 ⊢
    simp only at h2 ⊢
    rw [hk1 c hcb]
    exact h2)
  clear hk1
  go_wp2_with (at_builtin; refine wpList_append_ownF _ rfl _ _ 68 rfl B 5 i0 (.int .u8 0) 1 1 Tryz.underlying68 hi hz0 hz1 hz2 rfl (by decide) _ _ _ rfl hown ⟨c, 0, none⟩ n cap ps rfl (by rw [Nat.mul_one]; exact hn) hc1.out H1.out ?c3 ?c4 ?c5 ?_)
  case c3 => unfold maxLen; omega
  case c4 => omega
  case c5 => have := hb1.size; omega
  intro v' w2 hown' hgrow _
  have hlt : b < w1.heap.size := by
    rcases Nat.lt_or_ge b w1.heap.size with h' | h'
    · exact h'
    · simp [Array.getElem?_eq_none h'] at hbk
  have hb2 : w2.heap[b]? = some (.cells #[.pointer (some ⟨b, 0, none⟩), v] T (0, 0)) := by
    rw [hgrow.block b hlt (fun e => hne e.symm)]
    exact hbk
  have d0 : w2.cell? ⟨b, 0, none⟩ = some (.pointer (some ⟨b, 0, none⟩)) := by rw [Lib.cell_of_heap hb2]; rfl
  have d1 : w2.cell? ⟨b, 1, none⟩ = some v := by rw [Lib.cell_of_heap hb2]; rfl
  have f1 : w2.frozen? ⟨b, 1, none⟩ = false := Lib.frozen_of_heap hb2 1
  obtain ⟨ao, n', cap', rfl⟩ : ∃ ao n' cap, v' = .slice ao n' cap := by
    rcases hown'.2 with ⟨hv, _⟩ | ⟨g, cap, cur, fz, hv, _⟩
    · exact ⟨_, _, _, hv⟩
    · exact ⟨_, _, _, hv⟩
  go_wp2
  go_ret2
  refine ⟨rfl, .inr ?_, ?_⟩
  · exact Lib.BuilderAtF.put (T := T) (e := 5) hB hb2 (bs' := bs ++ ps) (by rw [List.length_append, hn]; exact hown') hT.ne
  · exact (hb1.grown hgrow (by have := hb1.size; omega) (fun k hk => (hown.lt k hk).1)).setCell (p := ⟨b, 1, none⟩) hB _
/-- Write, in bytes. -/
theorem write_any {T : TypeId} (hT : LiesT T) (B b : Nat) (l : List UInt8) (c n cap : Nat) (p : List UInt8) (w : World) (h : Bld T B b l w) (hn : p.length = n) (hp : ∀ j u, (Lib.byteCells p)[j]? = some u → w.cell? ⟨c, j, none⟩ = some u) (hcb : c ≠ b) (hnn : 0 < n)
    (hlen : l.length ≤ 1099511627776) (hn2 : n ≤ 1099511627776) (hBw : B ≤ w.heap.size) :
    Calls Tryz.prog 77 #[.pointer (some ⟨b, 0, none⟩), .slice (some ⟨c, 0, none⟩) n cap] w fun e w' => e = .returned (.tuple #[.int .i64 n, .nilIface]) ∧ Bld T B b (l ++ p) w' ∧ Below B w w' := by
  refine (write_k hT B b (Lib.byteCells l) c n cap (Lib.byteCells p) w h (by rw [Lib.byteCells_length]; exact hn) hp (fun u hu => ?_) hcb hnn (by rw [Lib.byteCells_length]; omega) hBw).mono ?_
  · simp only [Lib.byteCells, List.mem_map] at hu
    obtain ⟨x, _, rfl⟩ := hu
    rfl
  rintro e w' ⟨rfl, h1, h2⟩
  exact ⟨rfl, by simpa [Bld, Lib.byteCells] using h1, h2⟩

def beginB : List Int := [1779033703, 3144134277, 1013904242, 2773480762, 1359893119, 2600822924, 528734635, 1541459225]
set_option maxHeartbeats 1000000 in
set_option maxRecDepth 100000 in
theorem begin_any (w : World) : Calls Tryz.prog 75 #[] w fun e w' => e = .returned (.agg (wcells beginB).toArray) ∧ Ext w w' := by
  have hi8 : (Tryz.prog.info? 124).map (·.size) = some (wcells beginB).toArray.size := by kernel_rfl
  go_enter Tryz.func75, Tryz.ntmps75
  obtain ⟨g, hg⟩ : ∃ g, g = w.heap.size := ⟨_, rfl⟩
  have hZ : Words (w.alloc (.cells (wcells (List.replicate 8 0)).toArray 124)) g 124 (List.replicate 8 0) := by rw [hg]; exact heap_new w _
  go_wp2_with (refine wpList_store_mid (by rfl) 124 (.tmp 0) (.tmp 1) (by rfl) g 0 (wcells beginB).toArray (by rw [hg]; rfl) (by rfl) (by exact hZ.there) hi8 (all_oneCell_toArray (wcells_one _)) ?_)
  subst hg
  refine bodyPost_ret (v := .agg (wcells beginB).toArray) (results_cell_row rfl _ _ w.heap.size 124 (wcells beginB).toArray (0, 0) _ rfl (hZ.putAll beginB rfl) Tryz.underlying124 rfl hi8) rfl ⟨rfl, ((Ext.refl w).alloc _).setCells (Nat.le_refl _) _ _ _⟩
end Go.Proofs.YtfkjjhfoncckcaaGreatDoor
