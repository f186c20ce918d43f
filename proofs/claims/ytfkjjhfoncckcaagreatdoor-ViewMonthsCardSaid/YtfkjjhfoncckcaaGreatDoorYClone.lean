/- slices.Clone of views, and its row sorted. -/
import Derived.Test.YtfkjjhfoncckcaaGreatDoorYSort
import Derived.Lib.SliceRun
namespace Go.Proofs.YtfkjjhfoncckcaaGreatDoor
open Go.RowKit Go.Sort

theorem sort_ext {w0 w : World} (x : Ext w0 w) {g : Nat} (hg : w0.heap.size ≤ g) (hgl : g < w.heap.size) (n : Nat) (d : Array VC) (os : Array Obj) : Ext w0 (sortWorldK VC.enc 8 w g 0 n d os) := by
  have h : Below g w (sortWorldK VC.enc 8 w g 0 n d os) := by
    refine ⟨rfl, rfl, rfl, size_sortWorldK_c _ _ _ _ _ _ _ _, fun k hk => ?_⟩
    show ((w.heap.modify g (onCells (putCells id 0 (flatK VC.enc 8 d)))) ++ os)[k]? = w.heap[k]?
    rw [Array.getElem?_append_left (by rw [Array.size_modify]; omega), Array.getElem?_modify, if_neg (by omega)]
  exact x.upon (Below.mono h hg)
theorem holds_cells {W : World} {g : Nat} {d : Array VC} (h : HoldsK VC.enc 8 W g 0 d) (k : Nat) (hk : k < d.size) (j : Nat) (hj : j < 8) : W.cell? ⟨g, 0 + k * 8 + j, none⟩ = some ((d[k]!).enc[j]!) := by
  have h1 := (h (k * 8 + j) (by rw [size_flatK]; omega)).1
  rw [get_flatK _ _ _ _ (by omega)] at h1
  have e1 : (k * 8 + j) / 8 = k := by omega
  have e2 : (k * 8 + j) % 8 = j := by omega
  rw [e1, e2] at h1
  rw [Nat.zero_add, ← Nat.zero_add (k * 8 + j)]
  exact h1
/-- The views of a row, with their slices. -/
theorem views_vc {W : World} {qs : List ViewT} {b o : Nat} (h : ∀ i, i < qs.length → ∀ h : i < qs.length, ViewAt W qs[i] b (o + i * 8)) :
    ∃ d : Array VC, d.toList.map VC.q = qs ∧ ∀ j u, (flatK VC.enc 8 d).toList[j]? = some u → W.cell? ⟨b, o + j, none⟩ = some u := by
  have key : ∀ i : Fin qs.length, ∃ x : VC, x.q = qs[i] ∧ ∀ j, j < 8 → W.cell? ⟨b, o + i.val * 8 + j, none⟩ = some (x.enc[j]!) := by
    intro i
    obtain ⟨la, ln, lc, ma, mn, mc, h0, h1, h2, h3, h4, h5, h6, h7, hS, hI⟩ := h i.val i.isLt i.isLt
    obtain ⟨aS, cS, hvS, _, _⟩ := hS
    obtain ⟨aI, cI, hvI, _, _⟩ := hI
    cases hvS
    cases hvI
    refine ⟨⟨qs[i], la, lc, ma, mc⟩, rfl, fun j hj => ?_⟩
    match j, hj with
    | 0, _ => exact h0
    | 1, _ => exact h1
    | 2, _ => exact h2
    | 3, _ => exact h3
    | 4, _ => exact h4
    | 5, _ => exact h5
    | 6, _ => exact h6
    | 7, _ => exact h7
  obtain ⟨f, hf⟩ : ∃ f : Fin qs.length → VC, f = fun i => (key i).choose := ⟨_, rfl⟩
  have hf1 : ∀ i, (f i).q = qs[i] := fun i => by rw [hf]; exact (key i).choose_spec.1
  have hf2 : ∀ (i : Fin qs.length) j, j < 8 → W.cell? ⟨b, o + i.val * 8 + j, none⟩ = some ((f i).enc[j]!) := fun i => by rw [hf]; exact (key i).choose_spec.2
  clear hf
  refine ⟨Array.ofFn f, ?_, fun j u hu => ?_⟩
  · refine List.ext_getElem (by simp) fun i h1 h2 => ?_
    simp [hf1]
  · have hj : j < qs.length * 8 := by
      have := (List.getElem?_eq_some_iff.1 hu).1
      rw [Array.length_toList, size_flatK, Array.size_ofFn] at this
      exact this
    have e : u = ((Array.ofFn f)[j / 8]!).enc[j % 8]! := by
      have h2 := get_flatK VC.enc 8 (Array.ofFn f) j (by rw [Array.size_ofFn]; exact hj)
      rw [Array.getElem?_toList] at hu
      rw [← h2, getElem!_def, hu]
    have hi : j / 8 < qs.length := by omega
    rw [e, getElem!_pos (Array.ofFn f) (j / 8) (by simpa using hi), Array.getElem_ofFn]
    have h3 := hf2 ⟨j / 8, hi⟩ (j % 8) (Nat.mod_lt _ (by decide))
    have e3 : o + j / 8 * 8 + j % 8 = o + j := by omega
    rw [e3] at h3
    exact h3
/-- A row of views in a block of its own. -/
def VRow (W : World) (g : Nat) (d : Array VC) : Prop := (∃ cs, W.heap[g]? = some (.cells cs 43 (0, 0))) ∧ HoldsK VC.enc 8 W g 0 d
theorem VRow.keep {W W' : World} {g : Nat} {d : Array VC} (h : VRow W g d) (hk : W'.heap[g]? = W.heap[g]?) : VRow W' g d := by
  obtain ⟨⟨cs, h1⟩, h2⟩ := h
  refine ⟨⟨cs, hk.trans h1⟩, fun j hj => ?_⟩
  obtain ⟨a, b⟩ := h2 j hj
  exact ⟨(World.cell?_of_block (w := W) (w' := W') (a := ⟨g, 0 + j, none⟩) hk).trans a, (World.frozen?_of_block (w := W) (w' := W') (a := ⟨g, 0 + j, none⟩) hk).trans b⟩
theorem VRow.lt {W : World} {g : Nat} {d : Array VC} (h : VRow W g d) : g < W.heap.size := by
  obtain ⟨⟨cs, h1⟩, _⟩ := h
  exact (Array.getElem?_eq_some_iff.1 h1).1
theorem VRow.ext {W W' : World} {g : Nat} {d : Array VC} (h : VRow W g d) (x : Ext W W') : VRow W' g d := h.keep (x.heap h.lt)
theorem VRow.others {W W' : World} {g : Nat} {d : Array VC} {b : Nat} (h : VRow W g d) (x : Lib.OthersKept 5 (some b) W W') (hb : g ≠ b) : VRow W' g d := by
  obtain ⟨cs, h1⟩ := h.1
  exact h.keep ((x g _ h1 (by simpa using hb) (by intro C f e; simp at e)).trans h1.symm)
theorem VRow.sorted {W : World} {g : Nat} {d D : Array VC} (h : VRow W g d) (hs : D.size = d.size) (n : Nat) (os : Array Obj) : VRow (sortWorldK VC.enc 8 W g 0 n D os) g D := by
  refine ⟨?_, holdsK_sortWorldK_c _ _ _ _ _ d D n os h.2 h.lt hs⟩
  obtain ⟨cs, h1⟩ := h.1
  have hlt := h.lt
  obtain ⟨_, h2⟩ := Array.getElem?_eq_some_iff.1 h1
  refine ⟨putCells id 0 (flatK VC.enc 8 D) cs, ?_⟩
  show ((W.heap.modify g (onCells (putCells id 0 (flatK VC.enc 8 D)))) ++ os)[g]? = _
  rw [Array.getElem?_append_left (by rw [Array.size_modify]; exact hlt), Array.getElem?_eq_getElem (by rw [Array.size_modify]; exact hlt), Array.getElem_modify_self, h2]
  rfl
theorem holds_of_own {W : World} {base g n cap : Nat} {d : Array VC} (h : W.ownsRow base 43 8 (.slice (some ⟨g, 0, none⟩) n cap) n (flatK VC.enc 8 d).toList) (hn : n = d.size) : VRow W g d ∧ base ≤ g ∧ g < W.heap.size := by
  rcases h.2 with ⟨h0, _⟩ | ⟨g', cap', cur, hv, hb, hh, hc, _, hs, htake⟩
  · cases h0
  · cases hv
    refine ⟨⟨⟨cur, hh⟩, fun j hj => ?_⟩, hb, (Array.getElem?_eq_some_iff.1 hh).1⟩
    rw [size_flatK] at hj
    have h1 := h.cellAt j (by omega)
    rw [Nat.zero_add]
    refine ⟨?_, by simp [World.frozen?, hh]⟩
    rw [h1, Array.getElem?_toList, Array.getElem?_eq_getElem (by rw [size_flatK]; exact hj), getElem!_pos _ j (by rw [size_flatK]; exact hj)]
    rfl
theorem Tryz.info43 : (Tryz.prog.info? 43).map (fun i => (i.zero, i.size, i.bytes)) = some (some (.agg #[.string ByteArray.empty, .string ByteArray.empty, .string ByteArray.empty, .int .i64 0, .int .i64 0, .slice none 0 0, .string ByteArray.empty, .slice none 0 0]), 8, 128) := by kernel_rfl
set_option maxHeartbeats 1000000 in
set_option maxRecDepth 100000 in
theorem clone_any (qs : List ViewT) (v : Value) (w : World) (h : ViewsAt w qs v) (hl : qs.length ≤ 1073741824) :
    Calls Tryz.prog 33 #[v] w fun e w' => Ext w w' ∧ ((qs = [] ∧ ∃ a c, e = .returned (.slice a 0 c)) ∨
      ∃ (d : Array VC) (g cap : Nat), d.toList.map VC.q = qs ∧ e = .returned (.slice (some ⟨g, 0, none⟩) d.size cap) ∧ VRow w' g d ∧ w.heap.size ≤ g ∧ g < w'.heap.size) := by
  obtain ⟨a, c, rfl, hc, hr⟩ := h
  have q22 : ∀ (w : World) (a : Option Addr) (n c n' c' : Nat), (binOp .eql 22 (.slice a n c) (.slice none n' c')).run Tryz.prog w = .ok (.bool a.isNone) w := fun w a n c n' c' => Lib.run_eql_slice_nil w _ _ a n c n' c' Tryz.underlying22
  obtain ⟨i0, hi, hz0, hz1, hz2⟩ := info_parts Tryz.info43
  cases a with
  | none =>
    have h0 : qs = [] := by
      rcases hr with h0 | ⟨b, o, ha, _⟩
      · exact List.length_eq_zero_iff.1 h0
      · cases ha
    subst h0
    clear hr hi hz0 hz1 hz2
    go_enter Tryz.func33, Tryz.ntmps33
    go_wp2
    go_ret
    exact ⟨Ext.refl _, .inl ⟨by first | rfl | trivial, none, 0, rfl⟩⟩
  | some a =>
    obtain ⟨d, hd, hcells⟩ : ∃ d : Array VC, d.toList.map VC.q = qs ∧ ∀ j u, (flatK VC.enc 8 d).toList[j]? = some u → w.cell? (a.add j) = some u := by
      rcases hr with h0 | ⟨b, o, ha, hrow⟩
      · obtain rfl := List.length_eq_zero_iff.1 h0
        exact ⟨#[], rfl, fun j u hu => by simp [flatK] at hu⟩
      · cases ha
        obtain ⟨d, hd, hc⟩ := views_vc hrow
        exact ⟨d, hd, fun j u hu => by rw [Addr.add_lit]; exact hc j u hu⟩
    have hds : d.size = qs.length := by rw [← hd, List.length_map, Array.length_toList]
    obtain ⟨n, hn⟩ : ∃ n, n = qs.length := ⟨_, rfl⟩
    have hz : n = 0 → qs = [] := fun e => List.length_eq_zero_iff.1 (by omega)
    rw [← hn] at hl hc hds ⊢
    have Hd := Lib.hid hd
    have Hc := Lib.hid hcells
    have Hz := Lib.hid hz
    have hlen : (flatK VC.enc 8 d).toList.length = n * 8 := by rw [Array.length_toList, size_flatK, hds]
    have hone : ∀ u ∈ (flatK VC.enc 8 d).toList, u.oneCell' = true := by
      intro u hu
      obtain ⟨j, hj, rfl⟩ := List.getElem_of_mem hu
      rw [Array.length_toList] at hj
      have hj2 := hj
      rw [size_flatK] at hj2
      have h2 := get_flatK VC.enc 8 d j hj2
      rw [getElem!_pos _ j hj] at h2
      rw [Array.getElem_toList, h2]
      have h3 : j % 8 < (d[j / 8]!).enc.length := by rw [enc_len]; omega
      rw [getElem!_pos (d[j / 8]!).enc (j % 8) h3]
      exact enc_one _ _ (List.getElem_mem h3)
    obtain ⟨F, hF⟩ : ∃ F, F = (flatK VC.enc 8 d).toList := ⟨_, rfl⟩
    rw [← hF] at hlen hone Hc
    have HF := Lib.hid hF
    have H1 := Lib.hid hone
    clear hd hcells hn hr hz hF hone
    go_enter Tryz.func33, Tryz.ntmps33
    go_wp2_with (at_builtin; refine wpList_append_own _ rfl _ _ 22 rfl w.heap.size 43 i0 (.agg #[.string ByteArray.empty, .string ByteArray.empty, .string ByteArray.empty, .int .i64 0, .int .i64 0, .slice none 0 0, .string ByteArray.empty, .slice none 0 0]) 8 128 Tryz.underlying22 hi hz0 hz1 hz2 rfl (by decide) _ _ _ rfl (World.ownsRow_made w #[] 0 (Nat.le_refl _) (Nat.zero_le _) rfl) a n c F rfl hlen ?qc2 H1.out ?qc4 ?qc5 ?qc6 ?qc7)
    case qc2 => exact fun j u hj => Lib.cell?_alloc_some _ (Hc.out j u hj)
    case qc4 => unfold maxLen; omega
    case qc5 => omega
    case qc6 => simp
    intro v' w1 hown hgrow _
    have x1 : Ext w w1 := ((Below.refl _ w).alloc (Nat.le_refl _) _).grown hgrow (by simp) (by intro k hk; simp [Value.ownBlock] at hk; omega)
    have X1 := Lib.hid x1
    have HO := Lib.hid hown
    clear x1 hown hgrow hi hz0 hz1 hz2 q22
    go_wp2
    go_ret
    refine ⟨X1.out, ?_⟩
    have hown := HO.out
    by_cases h0 : n = 0
    · subst h0
      refine .inl ⟨Hz.out rfl, ?_⟩
      rcases hown.2 with ⟨rfl, _⟩ | ⟨g, cap, cur, rfl, _⟩
      · exact ⟨_, _, rfl⟩
      · exact ⟨_, _, rfl⟩
    · obtain ⟨m, rfl⟩ : ∃ m, n = m + 1 := ⟨n - 1, by omega⟩
      obtain ⟨g, cap, rfl⟩ := ownsRow_succ hown
      rw [HF.out] at hown
      obtain ⟨k1, k2, k3⟩ := holds_of_own hown hds.symm
      exact .inr ⟨d, g, cap, Hd.out, by rw [hds]; rfl, k1, k2, k3⟩
end Go.Proofs.YtfkjjhfoncckcaaGreatDoor
