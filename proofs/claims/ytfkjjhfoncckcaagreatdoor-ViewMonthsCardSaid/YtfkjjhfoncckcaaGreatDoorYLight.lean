/- The law's own bounds: light. -/
import Derived.Test.YtfkjjhfoncckcaaGreatDoorYCheck
namespace Go.Proofs.YtfkjjhfoncckcaaGreatDoor
open Go.RowKit Go.Sort

def shownOk (x : ShownT) : Bool := decide (x.salt.length ≤ 200) && decide (x.text.length ≤ 200) && decide (x.hash.length ≤ 200)
def headOk (q : ViewT) : Bool := decide (q.id.length ≤ 200) && decide (q.sender.length ≤ 200) && decide (q.subject.length ≤ 200) && decide (q.commit.length ≤ 200) && decide (q.lines.length ≤ 12) && decide (q.lists.length ≤ 12)
def viewOk (q : ViewT) : Bool := headOk q && q.lines.all shownOk
def lightOk (l : List ViewT) : Bool := l.all viewOk && decide (l.length ≤ 8)
theorem headOk_cases (q : ViewT) : (headOk q = true ∧ q.id.length ≤ 200 ∧ q.sender.length ≤ 200 ∧ q.subject.length ≤ 200 ∧ q.commit.length ≤ 200 ∧ q.lines.length ≤ 12 ∧ q.lists.length ≤ 12) ∨
    (headOk q = false ∧ (200 < q.id.length ∨ (q.id.length ≤ 200 ∧ (200 < q.sender.length ∨ (q.sender.length ≤ 200 ∧ (200 < q.subject.length ∨ (q.subject.length ≤ 200 ∧ (200 < q.commit.length ∨ (q.commit.length ≤ 200 ∧ (12 < q.lines.length ∨ (q.lines.length ≤ 12 ∧ 12 < q.lists.length))))))))))) := by
  by_cases h : headOk q = true
  · refine .inl ⟨h, ?_⟩
    simp only [headOk, Bool.and_eq_true, decide_eq_true_eq] at h
    obtain ⟨⟨⟨⟨⟨a, b⟩, c⟩, d⟩, e⟩, f⟩ := h
    exact ⟨a, b, c, d, e, f⟩
  · refine .inr ⟨by simpa using h, ?_⟩
    simp only [headOk, Bool.and_eq_true, decide_eq_true_eq] at h
    omega
theorem shownOk_cases (x : ShownT) : (shownOk x = true ∧ x.salt.length ≤ 200 ∧ x.text.length ≤ 200 ∧ x.hash.length ≤ 200) ∨
    (shownOk x = false ∧ (200 < x.salt.length ∨ (x.salt.length ≤ 200 ∧ (200 < x.text.length ∨ (x.text.length ≤ 200 ∧ 200 < x.hash.length))))) := by
  by_cases h : shownOk x = true
  · refine .inl ⟨h, ?_⟩
    simp only [shownOk, Bool.and_eq_true, decide_eq_true_eq] at h
    obtain ⟨⟨a, b⟩, c⟩ := h
    exact ⟨a, b, c⟩
  · refine .inr ⟨by simpa using h, ?_⟩
    simp only [shownOk, Bool.and_eq_true, decide_eq_true_eq] at h
    omega

set_option maxHeartbeats 2000000 in
set_option maxRecDepth 100000 in
theorem light_chk (l : List ViewT) (v : Value) (w : World) (h : ViewsAt w l v) (hl : l.length ≤ 9223372036854775807) :
    Calls Tryz.prog 6 #[v] w fun e w' => e = .returned (.bool (lightOk l)) ∧ Ext w w' := by
  obtain ⟨a, c, rfl, hc, hr⟩ := h
  have Hr := Lib.hid hr
  clear hr
  go_enter Tryz.func6, Tryz.ntmps6
  go_wp2_with fail
  go_loopw [3] (fun iv wr => ∃ k : Nat, k ≤ l.length ∧ iv = .int .i64 k ∧ (∀ j (hj : j < l.length), j < k → viewOk l[j] = true) ∧ Ext w wr) (fun i _ => l.length - (intOf i).toNat)
  case atStart => exact ⟨0, Nat.zero_le _, rfl, fun j _ hj => absurd hj (Nat.not_lt_zero _), Ext.refl w⟩
  case round =>
    obtain ⟨k, hk, rfl, hp, hx⟩ := hrel
    have Hp := Lib.hid hp
    have Hx := Lib.hid hx
    clear hp hx
    by_cases hlt : k < l.length
    · rcases Hr.out with h0 | ⟨b, o, ha, hrow⟩
      · omega
      subst ha
      obtain ⟨la, ln, lc, ma, mn, mc, h0, h1, h2, h3, h4, h5, h6, h7, hS, hI⟩ := (hrow k hlt hlt).ext Hx.out
      obtain ⟨aS, cS, hvS, hcS, hrS⟩ := hS
      cases hvS
      obtain ⟨aI, cI, hvI, hcI, hrI⟩ := hI
      cases hvI
      clear hrow hrI
      obtain ⟨q, hq⟩ : ∃ q, q = l[k] := ⟨_, rfl⟩
      have HQ := Lib.hid hq
      rw [← hq] at h0 h1 h2 h3 h4 h5 h6 h7 hcS hrS hcI
      clear hq
      have HrS := Lib.hid hrS
      clear hrS
      rcases headOk_cases q with ⟨hh, b0, b1, b2, b6, b5, b7⟩ | ⟨hh, hbad⟩
      · have i0 : ¬ (200 : Int) < q.id.length := by omega
        have i1 : ¬ (200 : Int) < q.sender.length := by omega
        have i2 : ¬ (200 : Int) < q.subject.length := by omega
        have i6 : ¬ (200 : Int) < q.commit.length := by omega
        have i5 : ¬ (12 : Int) < q.lines.length := by omega
        have i7 : ¬ (12 : Int) < q.lists.length := by omega
        have HH := Lib.hid hh
        have XB := Lib.hid (Hx.out.alloc (.cells #[vstr q.id, vstr q.sender, vstr q.subject, .int .i64 q.date, .int .i64 q.state, .slice la q.lines.length lc, vstr q.commit, .slice ma q.lists.length mc] 43))
        have YB := Lib.hid ((Ext.refl wr).alloc (.cells #[vstr q.id, vstr q.sender, vstr q.subject, .int .i64 q.date, .int .i64 q.state, .slice la q.lines.length lc, vstr q.commit, .slice ma q.lists.length mc] 43))
        clear hh b0 b1 b2 b6 b7 hcI
        obtain ⟨B, hB⟩ : ∃ B, B = wr.heap.size := ⟨_, rfl⟩
        obtain ⟨W1, hW1⟩ : ∃ W1, W1 = wr.alloc (.cells #[vstr q.id, vstr q.sender, vstr q.subject, .int .i64 q.date, .int .i64 q.state, .slice la q.lines.length lc, vstr q.commit, .slice ma q.lists.length mc] 43) := ⟨_, rfl⟩
        have c5 : W1.cell? ⟨B, 5, none⟩ = some (.slice la q.lines.length lc) := by rw [hW1, hB, World.cell?_alloc_mark]; rfl
        rw [← hW1] at XB YB
        go_wp2_with fail
        rw [show wr.alloc (.cells #[.string ⟨q.id.toArray⟩, .string ⟨q.sender.toArray⟩, .string ⟨q.subject.toArray⟩, .int .i64 q.date, .int .i64 q.state, .slice la q.lines.length lc, .string ⟨q.commit.toArray⟩, .slice ma q.lists.length mc] 43) = W1 from hW1.symm, ← hB]
        clear h0 h1 h2 h3 h4 h5 h6 h7 i0 i1 i2 i6 i5 i7 hW1 hB
        go_loopw [5] (fun jv wq => ∃ j : Nat, j ≤ q.lines.length ∧ jv = .int .i64 j ∧ (∀ i (hi : i < q.lines.length), i < j → shownOk q.lines[i] = true) ∧ Ext W1 wq) (fun i _ => q.lines.length - (intOf i).toNat)
        case atStart => exact ⟨0, Nat.zero_le _, rfl, fun j _ hj => absurd hj (Nat.not_lt_zero _), Ext.refl _⟩
        case round =>
          obtain ⟨j, hj, rfl, hp, hy⟩ := hrel
          have HpS := Lib.hid hp
          have Hy := Lib.hid hy
          have d5 := hy.holds c5
          clear hp hy
          by_cases hjl : j < q.lines.length
          · rcases HrS.out with h0 | ⟨bS, oS, haS, hrow⟩
            · omega
            subst haS
            obtain ⟨s0, s1, s2, s3⟩ := (hrow j hjl hjl).ext (YB.out.trans Hy.out)
            clear hrow
            obtain ⟨x, hx⟩ : ∃ x, x = q.lines[j] := ⟨_, rfl⟩
            have HX := Lib.hid hx
            rw [← hx] at s0 s1 s2 s3
            clear hx
            have e5 := ((Ext.refl _).alloc (.cells #[.bool x.hid, vstr x.salt, vstr x.text, vstr x.hash] 45)).holds d5
            have XC := Lib.hid ((XB.out.trans Hy.out).alloc (.cells #[.bool x.hid, vstr x.salt, vstr x.text, vstr x.hash] 45))
            have XD := Lib.hid (Hy.out.alloc (.cells #[.bool x.hid, vstr x.salt, vstr x.text, vstr x.hash] 45))
            rcases shownOk_cases x with ⟨hh, b1, b2, b3⟩ | ⟨hh, hbad⟩
            · have i1 : ¬ (200 : Int) < x.salt.length := by omega
              have i2 : ¬ (200 : Int) < x.text.length := by omega
              have i3 : ¬ (200 : Int) < x.hash.length := by omega
              have hok : Hid (shownOk q.lines[j] = true) := Lib.hid (by rw [← HX.out]; exact hh)
              clear hh b1 b2 b3
              go_wp2
              go_roundw
              case rel => exact ⟨j + 1, by omega, by go_num, fun i hi hij => by
                by_cases e : i = j
                · subst e; exact hok.out
                · exact HpS.out i hi (by omega), XD.out⟩
              case measure => simp [intOf]; omega
            · have hok : Hid (lightOk l = false) := Lib.hid (by rw [lightOk, all_bad viewOk l k hlt (by rw [← HQ.out, viewOk, all_bad shownOk q.lines j hjl (by rw [← HX.out]; exact hh), Bool.and_false])]; rfl)
              clear hh
              rcases hbad with b1 | ⟨b1, b2 | ⟨b2, b3⟩⟩
              · have i1 : (200 : Int) < x.salt.length := by omega
                clear b1
                go_wp2
                go_ret
                exact ⟨by rw [hok.out]; rfl, XC.out⟩
              · have i1 : ¬ (200 : Int) < x.salt.length := by omega
                have i2 : (200 : Int) < x.text.length := by omega
                clear b1 b2
                go_wp2
                go_ret
                exact ⟨by rw [hok.out]; rfl, XC.out⟩
              · have i1 : ¬ (200 : Int) < x.salt.length := by omega
                have i2 : ¬ (200 : Int) < x.text.length := by omega
                have i3 : (200 : Int) < x.hash.length := by omega
                clear b1 b2 b3
                go_wp2
                go_ret
                exact ⟨by rw [hok.out]; rfl, XC.out⟩
          · obtain rfl : j = q.lines.length := by omega
            have hok : Hid (viewOk l[k] = true) := Lib.hid (by rw [← HQ.out, viewOk, HH.out, Bool.true_and]; exact all_good _ _ fun i hi => HpS.out i hi hi)
            go_wp2
            go_roundw
            case rel => exact ⟨k + 1, by omega, by go_num, fun j hj hjk => by
              by_cases e : j = k
              · subst e; exact hok.out
              · exact Hp.out j hj (by omega), XB.out.trans Hy.out⟩
            case measure => simp [intOf]; omega
      · have XB := Lib.hid (Hx.out.alloc (.cells #[vstr q.id, vstr q.sender, vstr q.subject, .int .i64 q.date, .int .i64 q.state, .slice la q.lines.length lc, vstr q.commit, .slice ma q.lists.length mc] 43))
        have hok : Hid (lightOk l = false) := Lib.hid (by rw [lightOk, all_bad viewOk l k hlt (by rw [← HQ.out, viewOk, hh, Bool.false_and])]; rfl)
        clear hh hcI hcS
        rcases hbad with b0 | ⟨b0, b1 | ⟨b1, b2 | ⟨b2, b3 | ⟨b3, b4 | ⟨b4, b5⟩⟩⟩⟩⟩
        · have i0 : (200 : Int) < q.id.length := by omega
          clear b0
          go_wp2
          go_ret
          exact ⟨by rw [hok.out]; rfl, XB.out⟩
        · have i0 : ¬ (200 : Int) < q.id.length := by omega
          have i1 : (200 : Int) < q.sender.length := by omega
          clear b0 b1
          go_wp2
          go_ret
          exact ⟨by rw [hok.out]; rfl, XB.out⟩
        · have i0 : ¬ (200 : Int) < q.id.length := by omega
          have i1 : ¬ (200 : Int) < q.sender.length := by omega
          have i2 : (200 : Int) < q.subject.length := by omega
          clear b0 b1 b2
          go_wp2
          go_ret
          exact ⟨by rw [hok.out]; rfl, XB.out⟩
        · have i0 : ¬ (200 : Int) < q.id.length := by omega
          have i1 : ¬ (200 : Int) < q.sender.length := by omega
          have i2 : ¬ (200 : Int) < q.subject.length := by omega
          have i3 : (200 : Int) < q.commit.length := by omega
          clear b0 b1 b2 b3
          go_wp2
          go_ret
          exact ⟨by rw [hok.out]; rfl, XB.out⟩
        · have i0 : ¬ (200 : Int) < q.id.length := by omega
          have i1 : ¬ (200 : Int) < q.sender.length := by omega
          have i2 : ¬ (200 : Int) < q.subject.length := by omega
          have i3 : ¬ (200 : Int) < q.commit.length := by omega
          have i4 : (12 : Int) < q.lines.length := by omega
          clear b0 b1 b2 b3 b4
          go_wp2
          go_ret
          exact ⟨by rw [hok.out]; rfl, XB.out⟩
        · have i0 : ¬ (200 : Int) < q.id.length := by omega
          have i1 : ¬ (200 : Int) < q.sender.length := by omega
          have i2 : ¬ (200 : Int) < q.subject.length := by omega
          have i3 : ¬ (200 : Int) < q.commit.length := by omega
          have i4 : ¬ (12 : Int) < q.lines.length := by omega
          have i5 : (12 : Int) < q.lists.length := by omega
          clear b0 b1 b2 b3 b4 b5
          go_wp2
          go_ret
          exact ⟨by rw [hok.out]; rfl, XB.out⟩
    · obtain rfl : k = l.length := by omega
      have hok : Hid (l.all viewOk = true) := Lib.hid (all_good _ l fun j hj => Hp.out j hj hj)
      go_wp2
      go_ret
      refine ⟨ret_bool ?_, Hx.out⟩
      rw [lightOk, hok.out, Bool.true_and, decide_eq_decide]
      omega
end Go.Proofs.YtfkjjhfoncckcaaGreatDoor
