/- mime.Encoding. -/
import Derived.Test.YtdjcjkpodggdpaaGreatDoorSplit
import Derived.Test.YtdjcjkpodggdpaaGreatDoorBMimeA
namespace Go.Proofs.YtdjcjkpodggdpaaGreatDoor
open Go.RowKit
attribute [local go_sem] Oper.semAt_some

/-- A byte that cannot stand in a 7-bit text. -/
def oddB (c : UInt8) : Bool := decide (c.toNat ≠ 9) && (decide (c.toNat ≠ 10) && (decide (c.toNat < 32) || decide (126 < c.toNat)))
theorem odd_any (c : UInt8) (w : World) : Calls Tryz.prog 13 #[.int .u8 c.toNat] w fun e w' => e = .returned (.bool (oddB c)) ∧ w = w' := by
  by_cases h1 : c.toNat = 9
  · have g1 : ((c.toNat : Int) != 9) = false := by rw [h1]; rfl
    go_enter Tryz.func13, Tryz.ntmps13
    go_wp2
    go_ret
    exact ⟨ret_bool (by simp [oddB, h1]), rfl⟩
  · have g1 : ((c.toNat : Int) != 9) = true := by simp only [bne_iff_ne, ne_eq]; omega
    by_cases h2 : c.toNat = 10
    · have g2 : ((c.toNat : Int) != 10) = false := by rw [h2]; rfl
      go_enter Tryz.func13, Tryz.ntmps13
      go_wp2
      go_ret
      exact ⟨ret_bool (by simp [oddB, h2]), rfl⟩
    · have g2 : ((c.toNat : Int) != 10) = true := by simp only [bne_iff_ne, ne_eq]; omega
      by_cases h3 : c.toNat < 32
      · go_enter Tryz.func13, Tryz.ntmps13
        go_wp2
        go_ret
        exact ⟨ret_bool (by simp [oddB, h1, h2, h3]), rfl⟩
      · have d1 : decide ((c.toNat : Int) < 32) = false := by rw [decide_eq_false_iff_not]; omega
        have d2 : decide (126 < (c.toNat : Int)) = decide (126 < c.toNat) := by rw [decide_eq_decide]; omega
        go_enter Tryz.func13, Tryz.ntmps13
        go_wp2
        go_ret
        exact ⟨ret_bool (by simp [oddB, h1, h2, h3, d2]), rfl⟩

/-- The length of the longest line. -/
def longOf (ls : List (List UInt8)) : Nat := ls.foldl (fun m x => max m x.length) 0
def longB (l : List UInt8) : Nat := longOf (splitB 10 l)
theorem longOf_snoc (ls : List (List UInt8)) (x : List UInt8) : longOf (ls ++ [x]) = max (longOf ls) x.length := by simp [longOf]
theorem longOf_le (n : Nat) : ∀ ls : List (List UInt8), (∀ x ∈ ls, x.length ≤ n) → longOf ls ≤ n := by
  have : ∀ (ls : List (List UInt8)) (m : Nat), m ≤ n → (∀ x ∈ ls, x.length ≤ n) → ls.foldl (fun m x => max m x.length) m ≤ n := by
    intro ls
    induction ls with
    | nil => intro m h _; exact h
    | cons x ls ih => intro m h1 h2; exact ih _ (Nat.max_le.2 ⟨h1, h2 x (by simp)⟩) (fun y hy => h2 y (by simp [hy]))
  exact fun ls h => this ls 0 (Nat.zero_le _) h
def bits7B : List UInt8 := [55, 98, 105, 116]
/-- How a body is encoded. -/
def encodB (l : List UInt8) : List UInt8 := if l.countP oddB = 0 ∧ longB l ≤ 900 then bits7B else if 4 * l.countP oddB ≤ l.length then qpB else b64B
theorem count_snoc (l : List UInt8) (k : Nat) (hk : k < l.length) : (l.take (k + 1)).countP oddB = (l.take k).countP oddB + if oddB l[k] then 1 else 0 := by
  rw [List.take_succ_eq_append_getElem hk, List.countP_append]
  congr 1
  simp [List.countP_cons]

def EInv (b N : Nat) (W0 : World) {xs : List (List UInt8)} (pre : List {x : List UInt8 // x ∈ xs}) (W : World) : Prop := Boxed W b 3 (.int .i64 (longOf (pre.map (·.1)) : Nat)) ∧ Old N [b, b + 1] W0 W
theorem EInv.abides {b N B : Nat} {W0 : World} {xs : List (List UInt8)} (hB : N ≤ B) : ∀ (pre : List {x : List UInt8 // x ∈ xs}) W W', Ag B W W' → EInv b N W0 pre W → EInv b N W0 pre W' := by
  rintro pre W W' h ⟨h1, h3⟩
  exact ⟨h.boxed h1, h.old h3 hB⟩

set_option maxHeartbeats 2000000 in
set_option maxRecDepth 100000 in
theorem encoding_any (l : List UInt8) (w : World) (hs : l.length ≤ 16777216) :
    Calls Tryz.prog 9 #[vstr l] w fun e w' => e = .returned (vstr (encodB l)) ∧ Ext w w' := by
  refine callsIn_wide (n := 12).1 ?_
  refine callsIn_of_wp_marks Tryz.func9 rfl trivial ?_ rfl
  simp only [Tryz.ntmps9, List.size_toArray, List.length_cons, List.length_nil, Nat.reduceAdd, Nat.reduceSub, Array.replicate_succ, Array.replicate_zero, List.push_toArray, List.append_toArray, List.nil_append, List.cons_append]
  gi_wp2
  refine ⟨trivial, (inW _ (splitSeq_any _ _ _)).mono ?_⟩
  rintro e w1 ⟨rfl, rfl⟩
  gi_wp2
  obtain ⟨b, hb⟩ : ∃ b, b = w.heap.size := ⟨_, rfl⟩
  obtain ⟨W0, hW0⟩ : ∃ W0, W0 = (((w.alloc (.cells #[.int .i64 0] 3)).alloc (.cells #[vstr l] 9)).alloc (.cells #[vstr [10]] 9)).alloc (.cells #[.int .i64 0] 3) := ⟨_, rfl⟩
  have hsz0 : W0.heap.size = b + 1 + 1 + 1 + 1 := by rw [hW0, hb]; simp
  have x0 : Ext w W0 := by rw [hW0]; exact (((((Ext.refl w).alloc _).alloc _).alloc _).alloc _)
  have f0 : Boxed W0 b 3 (.int .i64 ((0 : Nat) : Int)) := by rw [hW0, hb]; exact ((((Boxed.new w _ _).alloc _).alloc _).alloc _)
  have f1 : Boxed W0 (b + 1) 9 (vstr l) := by
    rw [hW0, hb]
    have := Boxed.new (w.alloc (.cells #[.int .i64 0] 3)) 9 (vstr l)
    rw [World.size_alloc] at this
    exact (this.alloc _).alloc _
  have f2 : Boxed W0 (b + 1 + 1) 9 (vstr [10]) := by
    rw [hW0, hb]
    have := Boxed.new ((w.alloc (.cells #[.int .i64 0] 3)).alloc (.cells #[vstr l] 9)) 9 (vstr [10])
    rw [World.size_alloc, World.size_alloc] at this
    exact this.alloc _
  have f3 : Boxed W0 (b + 1 + 1 + 1) 3 (.int .i64 0) := by
    rw [hW0, hb]
    have := Boxed.new (((w.alloc (.cells #[.int .i64 0] 3)).alloc (.cells #[vstr l] 9)).alloc (.cells #[vstr [10]] 9)) 3 (.int .i64 0)
    rw [World.size_alloc, World.size_alloc, World.size_alloc] at this
    exact this
  have hbw : b ≤ w.heap.size := by omega
  rw [show (((w.alloc (.cells #[.int .i64 0] 3)).alloc (.cells #[vstr l] 9)).alloc (.cells #[vstr [10]] 9)).alloc (.cells #[.int .i64 0] 3) = W0 from hW0.symm, ← hb]
  have Hb := Lib.hid hb
  clear hW0 hb
  have hle : ∀ x ∈ splitB 10 l, x.length ≤ l.length := fun x hx => splitB_le hx
  refine wp_range_steps (n := 12) (by omega) (gf := 45) (lb := #[.pointer (some ⟨b + 1 + 1, 0, none⟩), .pointer (some ⟨b + 1, 0, none⟩), .pointer (some ⟨b + 1 + 1 + 1, 0, none⟩)]) rfl (enters_of Tryz.func45 (by kernel_rfl) rfl)
    (split_iter 10 l (b + 1) (b + 1 + 1) (b + 1 + 1 + 1) (b + 1 + 1 + 1 + 1) [b] W0 f1 f2 f3 (by omega) (by omega) (by omega) (by simp) (by simp; omega) (by simp; omega) (by omega) (by omega) (by omega)) (Ext.refl _)
    Old.trans (fun W l' o o' h1 _ _ _ => Old.putObj W l' o' (by omega)) (fun _ => rfl)
    (by rintro A B ⟨r, rfl⟩; exact KeepsOthers.setCell _ _ _)
    (EInv b (b + 1 + 1 + 1 + 1) W0) (fun _ _ _ => False) (ownFrom_of (EInv.abides (by omega))) (fun c => ownFrom_of (fun _ _ _ _ h => h))
    (by rintro pre A B ⟨h1, h2⟩ ⟨r, rfl⟩; exact ⟨h1.other (by omega) _, h2.setCell (by simp) _⟩)
    ⟨f0, Old.refl _ _ _⟩
    (fun x a' _ => a' = { tmps := #[vstr l, undef, .string ⟨#[]⟩, .int .i64 0, .pointer (some ⟨b, 0, none⟩), vstr x.1, undef, vstr l, .func (.func 45) #[] #[.pointer (some ⟨b + 1 + 1, 0, none⟩), .pointer (some ⟨b + 1, 0, none⟩), .pointer (some ⟨b + 1 + 1 + 1, 0, none⟩)], vstr x.1, undef, undef, undef, undef, undef, undef, undef, undef, undef, undef, undef, undef, undef, undef, undef, undef, undef, undef, undef, undef, undef, undef, undef, undef, undef, undef, undef, undef, undef], defers := [] })
    (fun x a' => ownFrom_of (by rintro _ W W' _ h; exact h)) ?assign ?body ?done ?stop
  case assign =>
    intro ll pre x W K hI hK
    dsimp only [encW]
    gi_wp2
    exact hK _ _ ((KeepsOthers.refl _).from _) (Old.refl _ _ _) hI rfl
  case body =>
    rintro ll pre x a' W hll ⟨r, hr⟩ ⟨bo, hold⟩ rfl hlt
    obtain ⟨x, hx⟩ := x
    have hxl := hle x hx
    have Bo := bo.cell
    have Bf := bo.frozen
    obtain ⟨m, hm⟩ : ∃ m, m = longOf (pre.map (·.1)) := ⟨_, rfl⟩
    rw [← hm] at Bo bo
    have hmx : max (m : Int) (x.length : Int) = ((max m x.length : Nat) : Int) := by omega
    have e : longOf ((pre ++ [(⟨x, hx⟩ : {x : List UInt8 // x ∈ splitB 10 l})]).map (·.1)) = max m x.length := by rw [List.map_append, hm]; exact longOf_snoc _ x
    have He := Lib.hid e
    clear e hm hle
    dsimp only
    gi_wp2
    refine ⟨(KeepsOthers.setCell _ _ _).from _, (Old.refl _ _ _).setCell (by simp) _, ?_, hold.setCell (by simp) _⟩
    rw [He.out]
    exact Boxed.set _ bo
  case done =>
    rintro D ys W hD hS ⟨bo, hold⟩ hK
    rw [hS] at bo
    have Bo : W.cell? ⟨b, 0, none⟩ = some (.int .i64 (longB l : Nat)) := bo.cell
    have hml : longB l ≤ l.length := longOf_le _ _ hle
    obtain ⟨mx, hmx⟩ : ∃ mx, mx = longB l := ⟨_, rfl⟩
    rw [← hmx] at Bo hml
    have hcl : l.countP oddB ≤ l.length := List.countP_le_length
    obtain ⟨cn, hcn⟩ : ∃ cn, cn = l.countP oddB := ⟨_, rfl⟩
    have Henc : Hid (encodB l = if cn = 0 ∧ mx ≤ 900 then bits7B else if 4 * cn ≤ l.length then qpB else b64B) := Lib.hid (by rw [encodB, hcn, hmx])
    have Hcn := Lib.hid hcn
    rw [← hcn] at hcl
    have hb := Hb.out
    have hDb : b + 1 + 1 + 1 + 1 ≤ D := by omega
    have hold2 := hold.trans (Old.putObj _ D (.deferred none) hDb)
    have xE : Hid (Ext w (W.putObj D (.deferred none))) := Lib.hid (x0.upon (hold2.below (by omega) (by omega) (by simp; omega)))
    clear hle hS hmx hcn bo hold hold2 f0 f1 f2 f3 hb x0
    gi_wp2
    gi_loopw [3, 16] (fun n i wr => ∃ k : Nat, k ≤ l.length ∧ i = .int .i64 k ∧ n = .int .i64 ((l.take k).countP oddB : Nat) ∧ wr = W) (fun _ i _ => l.length - (intOf i).toNat)
    case atStart => exact ⟨0, Nat.zero_le _, rfl, rfl, rfl⟩
    case round =>
      obtain ⟨k, hk, rfl, rfl, rfl⟩ := hrel
      by_cases hlt : k < l.length
      · have hsn := count_snoc l k hlt
        have hcl2 : (l.take k).countP oddB ≤ k := Nat.le_trans List.countP_le_length (by simp; omega)
        have hg : ((⟨l.toArray⟩ : ByteArray)[k]'hlt) = l[k] := rfl
        obtain ⟨ck, hck⟩ : ∃ ck, ck = l[k] := ⟨_, rfl⟩
        rw [← hck] at hsn hg
        obtain ⟨cd, hcd⟩ : ∃ cd, cd = (l.take k).countP oddB := ⟨_, rfl⟩
        rw [← hcd] at hsn hcl2 ⊢
        have Hsn := Lib.hid hsn
        clear hsn hcd hck
        gi_wp2
        refine ⟨trivial, (inW _ (odd_any ck _)).mono ?_⟩
        rintro e w2 ⟨rfl, rfl⟩
        cases ho : oddB ck
        · have Ho := Lib.hid ho
          clear ho
          gi_wp2
          go_roundw
          case rel => exact ⟨k + 1, by omega, by go_num, by rw [Hsn.out, Ho.out]; rfl, trivial⟩
          case measure => simp [intOf]; omega
        · have Ho := Lib.hid ho
          clear ho
          gi_wp2
          go_roundw
          case rel => exact ⟨k + 1, by omega, by go_num, by rw [Hsn.out, Ho.out]; go_num, trivial⟩
          case measure => simp [intOf]; omega
      · obtain rfl : k = l.length := by omega
        rw [List.take_length, ← Hcn.out]
        by_cases h0 : cn = 0
        · subst h0
          by_cases h9 : mx ≤ 900
          · have e : encodB l = bits7B := by rw [Henc.out, if_pos ⟨rfl, h9⟩]
            have He := Lib.hid e
            clear e
            gi_wp2
            refine ⟨by simp, .inl ⟨_, _, rfl, run_takeDeferred hK, ?_⟩⟩
            exact ⟨_, results_tmp rfl _ _ _, by rw [He.out]; rfl, xE.out⟩
          · have d9 : decide ((mx : Int) ≤ 900) = false := by rw [decide_eq_false_iff_not]; omega
            have e : encodB l = qpB := by rw [Henc.out, if_neg (by omega), if_pos (by omega)]
            have He := Lib.hid e
            clear e
            gi_wp2
            refine ⟨by simp, .inl ⟨_, _, rfl, run_takeDeferred hK, ?_⟩⟩
            exact ⟨_, results_tmp rfl _ _ _, by rw [He.out]; rfl, xE.out⟩
        · have d0 : ((cn : Int) == 0) = false := by simp only [beq_eq_false_iff_ne, ne_eq]; omega
          by_cases h4 : 4 * cn ≤ l.length
          · have d4 : decide (4 * (cn : Int) ≤ (l.length : Int)) = true := by rw [decide_eq_true_iff]; omega
            have e : encodB l = qpB := by rw [Henc.out, if_neg (by omega), if_pos h4]
            have He := Lib.hid e
            clear e
            gi_wp2
            refine ⟨by simp, .inl ⟨_, _, rfl, run_takeDeferred hK, ?_⟩⟩
            exact ⟨_, results_tmp rfl _ _ _, by rw [He.out]; rfl, xE.out⟩
          · have d4 : decide (4 * (cn : Int) ≤ (l.length : Int)) = false := by rw [decide_eq_false_iff_not]; omega
            have e : encodB l = b64B := by rw [Henc.out, if_neg (by omega), if_neg h4]
            have He := Lib.hid e
            clear e
            gi_wp2
            refine ⟨by simp, .inl ⟨_, _, rfl, run_takeDeferred hK, ?_⟩⟩
            exact ⟨_, results_tmp rfl _ _ _, by rw [He.out]; rfl, xE.out⟩
  case stop =>
    rintro D c pre W hD hS h hK
    exact h.elim
end Go.Proofs.YtdjcjkpodggdpaaGreatDoor
