/- ViewSafe: two entries are compared; a view's lines are copied and changed. -/
import Derived.Test.YtfkjjhfoncckcaaGreatDoorYRowS
import Derived.Laws.StructEq
namespace Go.Proofs.YtfkjjhfoncckcaaGreatDoor
open Go.RowKit Go.Sort

theorem entry_same (a c : List UInt8) (b : Int) (w : World) : (binOp .neq 50 (.agg #[vstr a, .int .i64 b, vstr c]) (.agg #[vstr a, .int .i64 b, vstr c])).run Tryz.prog w = .ok (.bool false) w := by
  have h : (Op.equalIn 10000 50 (.agg #[vstr a, .int .i64 b, vstr c]) (.agg #[vstr a, .int .i64 b, vstr c])).run Tryz.prog w = .ok true w := by
    rw [show (10000 : Nat) = 9999 + 1 from rfl, run_equalIn_agg w 9999 50 _ _ (by kernel_rfl) (by kernel_rfl)]
    have u3 := Tryz.underlying3
    have a3 := Tryz.isAgg3
    have z3 := Tryz.sizeOf3
    have u9 := Tryz.underlying9
    have a9 := Tryz.isAgg9
    have z9 := Tryz.sizeOf9
    simp only [Program.fieldsOf, Tryz.underlying50]
    go_simp
  rw [run_neq_struct, h]
  rfl
/-- What the bounds of ViewSafe say. -/
theorem light_good {qs : List ViewT} (h : lightOk qs = true) : qs.length ≤ 8 ∧ ∀ q ∈ qs, q.id.length ≤ 200 ∧ q.sender.length ≤ 200 ∧ q.subject.length ≤ 200 ∧ q.commit.length ≤ 200 ∧ q.lines.length ≤ 12 ∧ q.lists.length ≤ 12 ∧ ∀ y ∈ q.lines, y.salt.length ≤ 200 ∧ y.text.length ≤ 200 ∧ y.hash.length ≤ 200 := by
  rw [lightOk, Bool.and_eq_true, decide_eq_true_eq] at h
  refine ⟨h.2, fun q hq => ?_⟩
  have h1 := List.all_eq_true.1 h.1 q hq
  rw [viewOk, Bool.and_eq_true] at h1
  rcases headOk_cases q with ⟨_, a, b, c, d, e, f⟩ | ⟨hf, _⟩
  · refine ⟨a, b, c, d, e, f, fun y hy => ?_⟩
    rcases shownOk_cases y with ⟨_, a, b, c⟩ | ⟨hf, _⟩
    · exact ⟨a, b, c⟩
    · rw [List.all_eq_true.1 h1.2 y hy] at hf; cases hf
  · rw [h1.1] at hf; cases hf
theorem nodes_good {ns : List NodeT} (h : nodesOk ns = true) : ns.length ≤ 12 ∧ ∀ q ∈ ns, q.id.length ≤ 200 := by
  rw [nodesOk, Bool.and_eq_true, decide_eq_true_eq] at h
  exact ⟨h.2, fun q hq => of_decide_eq_true (List.all_eq_true.1 h.1 q hq)⟩
theorem subs_good {us : List SubT} (h : subsOk us = true) : us.length ≤ 12 ∧ ∀ q ∈ us, q.addr.length ≤ 200 ∧ q.topic.length ≤ 200 := by
  rw [subsOk, Bool.and_eq_true, decide_eq_true_eq] at h
  refine ⟨h.2, fun q hq => ?_⟩
  have h1 := List.all_eq_true.1 h.1 q hq
  rw [subOk, Bool.and_eq_true, decide_eq_true_eq, decide_eq_true_eq] at h1
  exact h1
theorem ids_good {ids : List (List UInt8)} (h : idsOk ids = true) : ids.length ≤ 12 ∧ ∀ q ∈ ids, q.length ≤ 200 := by
  rw [idsOk, Bool.and_eq_true, decide_eq_true_eq] at h
  exact ⟨h.2, fun q hq => of_decide_eq_true (List.all_eq_true.1 h.1 q hq)⟩
theorem findV_le {qs : List ViewT} (h : ∀ q ∈ qs, q.sender.length ≤ 200 ∧ q.subject.length ≤ 200) (id : List UInt8) : (findV id qs).sender.length ≤ 200 ∧ (findV id qs).subject.length ≤ 200 := by
  unfold findV
  cases hf : qs.find? (fun q => q.id == id) with
  | none => exact ⟨Nat.zero_le _, Nat.zero_le _⟩
  | some q => exact h q (List.mem_of_find?_eq_some hf)
theorem entryB_le {qs : List ViewT} (h : ∀ q ∈ qs, q.sender.length ≤ 200 ∧ q.subject.length ≤ 200) (id : List UInt8) (hid : id.length ≤ 200) : (entryB id qs).length ≤ 4000 := by
  have h1 := findV_le h id
  have h2 := escapeB_le id
  have h3 := escapeB_le (findV id qs).sender
  have h4 := escapeB_le (findV id qs).subject
  unfold entryB
  simp only [List.length_append, List.length_cons, List.length_nil]
  omega
theorem thread_le {qs : List ViewT} {ns : List NodeT} (h : ∀ q ∈ qs, q.sender.length ≤ 200 ∧ q.subject.length ≤ 200) (hn : ∀ q ∈ ns, q.id.length ≤ 200) (hl : ns.length ≤ 12) : (threadB qs ns).length ≤ 1073741824 := by
  have key : ∀ l : List NodeT, (∀ q ∈ l, q.id.length ≤ 200) → (threadB qs l).length ≤ l.length * 6000 := by
    intro l
    induction l with
    | nil => intro _; exact Nat.le_refl _
    | cons q l ih =>
      intro hl
      have h1 := ih fun y hy => hl y (List.mem_cons_of_mem _ hy)
      have h2 := hl q List.mem_cons_self
      have h3 := indentB_le q.depth
      have h4 := escapeB_le q.id
      have h5 := entryB_le h q.id h2
      have h6 : (nodeB qs q).length ≤ 6000 := by
        unfold nodeB
        split <;> (simp only [List.length_append, List.length_cons, List.length_nil]; omega)
      rw [threadB, List.map_cons, List.flatten_cons, List.length_append, ← threadB, List.length_cons, Nat.add_mul]
      omega
  have := key ns hn
  have h5 : ns.length * 6000 ≤ 12 * 6000 := Nat.mul_le_mul_right _ hl
  omega
theorem search_le {qs : List ViewT} {ids : List (List UInt8)} (s : List UInt8) (h : ∀ q ∈ qs, q.sender.length ≤ 200 ∧ q.subject.length ≤ 200) (hi : ∀ q ∈ ids, q.length ≤ 200) (hl : ids.length ≤ 12) (hs : s.length ≤ 1500) : (searchB s ids qs).length ≤ 1073741824 := by
  have h1 := linesE_le (fun id => [entryB id qs]) 4000 ids (fun id hid => by
    have := entryB_le h id (hi id hid)
    simpa using this) (searchH s ids.length)
  have h2 := escapeB_le s
  have h3 := Lib.itoa_length_le ids.length (by omega) (by omega)
  have h4 : (searchH s ids.length).length ≤ 20000 := by
    unfold searchH
    simp only [putL_len, List.flatten_cons, List.flatten_nil, List.length_append, List.length_nil, List.length_cons]
    omega
  have h5 : ids.length * (4000 + 1) ≤ 12 * 4001 := Nat.mul_le_mul_right _ hl
  unfold searchB
  omega
theorem list_le {x : ListT} {us : List SubT} {ids : List (List UInt8)} (hx : I64 x.id ∧ I64 x.into ∧ I64 x.parent) (hn : x.name.length ≤ 200 ∧ x.remote.length ≤ 200) (hu : ∀ q ∈ us, q.addr.length ≤ 200 ∧ q.topic.length ≤ 200) (hi : ∀ q ∈ ids, q.length ≤ 200) (hul : us.length ≤ 12) (hl : ids.length ≤ 12) : (listB x us ids).length ≤ 1073741824 := by
  have h1 := linesE_le subL 4000 us (fun q hq => by
    have := hu q hq
    have h2 := escapeB_le q.addr
    have h3 := escapeB_le q.topic
    have h4 := modeB_le q.mode
    have h5 : (topicB q).length ≤ 1300 := by
      unfold topicB
      split
      · simp only [List.length_append, List.length_cons, List.length_nil]; omega
      · simp
    unfold subL
    simp only [List.flatten_cons, List.flatten_nil, List.length_append, List.length_nil, List.length_cons]
    omega) (linesE modL (listE4 x) ids)
  have h2 := linesE_le modL 4000 ids (fun q hq => by
    have := hi q hq
    have h2 := escapeB_le q
    unfold modL
    simp only [List.flatten_cons, List.flatten_nil, List.length_append, List.length_nil, List.length_cons]
    omega) (listE4 x)
  have h3 : (listE4 x).length ≤ 10000 := by
    have a := Lib.itoa_length_le x.id hx.1.1 hx.1.2
    have b := Lib.itoa_length_le x.into hx.2.1.1 hx.2.1.2
    have c := Lib.itoa_length_le x.parent hx.2.2.1 hx.2.2.2
    have d := escapeB_le x.name
    have e := escapeB_le x.remote
    have z1 : (listE1 x).length ≤ 2000 := by
      unfold listE1
      simp only [putL_len, List.flatten_cons, List.flatten_nil, List.length_append, List.length_nil, List.length_cons]
      omega
    have z2 : (listE2 x).length ≤ 3000 := by
      unfold listE2
      split
      · simp only [putL_len, List.flatten_cons, List.flatten_nil, List.length_append, List.length_nil, List.length_cons]; omega
      · omega
    have z3 : (listE3 x).length ≤ 5000 := by
      unfold listE3
      split
      · omega
      · simp only [putL_len, List.flatten_cons, List.flatten_nil, List.length_append, List.length_nil, List.length_cons]; omega
    unfold listE4
    split
    · simp only [putL_len, List.flatten_cons, List.flatten_nil, List.length_append, List.length_nil, List.length_cons]; omega
    · omega
  have h5 : ids.length * (4000 + 1) ≤ 12 * 4001 := Nat.mul_le_mul_right _ hl
  have h6 : us.length * (4000 + 1) ≤ 12 * 4001 := Nat.mul_le_mul_right _ hul
  unfold listB
  omega
theorem text_le {l : List ShownT} (h : ∀ y ∈ l, y.text.length ≤ 200) (hl : l.length ≤ 12) : (textB l).length ≤ 1073741824 := by
  have key : ∀ l : List ShownT, (∀ y ∈ l, y.text.length ≤ 200) → (textB l).length ≤ l.length * 300 := by
    intro l
    induction l with
    | nil => intro _; exact Nat.le_refl _
    | cons y l ih =>
      intro hl
      have h1 := ih fun z hz => hl z (List.mem_cons_of_mem _ hz)
      have h2 := hl y List.mem_cons_self
      have h3 : (shownTx y).length ≤ 200 := by
        unfold shownTx
        split
        · simp
        · exact h2
      unfold textB unlinesB at h1 ⊢
      simp only [List.map_cons, List.flatten_cons, List.length_append, List.length_cons, List.length_nil, Nat.add_mul] at h1 ⊢
      omega
  have := key l h
  have h5 : l.length * 300 ≤ 12 * 300 := Nat.mul_le_mul_right _ hl
  omega
theorem message_le {q : ViewT} (hd : I64 q.date ∧ I64 q.state ∧ ∀ n ∈ q.lists, I64 n) (h : q.id.length ≤ 200 ∧ q.sender.length ≤ 200 ∧ q.subject.length ≤ 200 ∧ q.commit.length ≤ 200 ∧ q.lines.length ≤ 12 ∧ q.lists.length ≤ 12 ∧ ∀ y ∈ q.lines, y.salt.length ≤ 200 ∧ y.text.length ≤ 200 ∧ y.hash.length ≤ 200) : (messageB q).length ≤ 1073741824 := by
  obtain ⟨a, b, c, d, e, f, g⟩ := h
  have k1 := escapeB_le q.id
  have k2 := escapeB_le q.sender
  have k3 := escapeB_le q.subject
  have k4 := hexB_len q.commit
  have k5 := Lib.itoa_length_le q.date hd.1.1 hd.1.2
  have k6 := Lib.itoa_length_le q.state hd.2.1.1 hd.2.1.2
  have k7 : ∀ (l : List Int) (z : List UInt8), (∀ n ∈ l, I64 n) → (l.foldl (fun a n => a ++ ([32] ++ Lib.itoa n)) z).length ≤ z.length + l.length * 22 := by
    intro l
    induction l with
    | nil => intro z _; show z.length ≤ _; omega
    | cons n l ih =>
      intro z hl
      have h1 := ih (z ++ ([32] ++ Lib.itoa n)) fun y hy => hl y (List.mem_cons_of_mem _ hy)
      have h2 := Lib.itoa_length_le n (hl n List.mem_cons_self).1 (hl n List.mem_cons_self).2
      rw [List.foldl_cons, List.length_cons, Nat.add_mul]
      simp only [List.length_append, List.length_cons, List.length_nil] at h1
      omega
  have k8 := k7 q.lists [108, 105, 115, 116, 115] hd.2.2
  have k9 : ∀ (l : List ShownT) (E : List UInt8), (∀ y ∈ l, y.salt.length ≤ 200 ∧ y.text.length ≤ 200 ∧ y.hash.length ≤ 200) → (l.foldl shownE E).length ≤ E.length + l.length * 2000 := by
    intro l
    induction l with
    | nil => intro z _; show z.length ≤ _; omega
    | cons y l ih =>
      intro E hl
      have h1 := ih (shownE E y) fun z hz => hl z (List.mem_cons_of_mem _ hz)
      obtain ⟨h2, h3, h4⟩ := hl y List.mem_cons_self
      have h5 := escapeB_le y.text
      have h6 := hexB_len y.salt
      have h7 := hexB_len y.hash
      have h8 : (shownE E y).length ≤ E.length + 2000 := by
        unfold shownE
        split <;> (simp only [putL_len, List.flatten_cons, List.flatten_nil, List.length_append, List.length_nil, List.length_cons]; omega)
      rw [List.foldl_cons, List.length_cons, Nat.add_mul]
      omega
  have k10 := k9 q.lines (headB q) g
  have k11 : (headB q).length ≤ 10000 := by
    have : (listsB q.lists).length ≤ 1000 := by
      have h9 : q.lists.length * 22 ≤ 12 * 22 := Nat.mul_le_mul_right _ f
      have h10 : ([108, 105, 115, 116, 115] : List UInt8).length = 5 := rfl
      unfold listsB
      omega
    unfold headB
    simp only [putL_len, List.flatten_cons, List.flatten_nil, List.length_append, List.length_nil, List.length_cons]
    omega
  have h5 : q.lines.length * 2000 ≤ 12 * 2000 := Nat.mul_le_mul_right _ e
  unfold messageB
  rw [putL_len]
  simp only [List.flatten_cons, List.flatten_nil, List.length_append, List.length_nil, List.length_cons]
  omega
end Go.Proofs.YtfkjjhfoncckcaaGreatDoor
