/- Numbers turned round, one number more, and keeping again: plain laws of what is kept. No program in sight, no condition. -/
import Derived.Test.YtpeccfopffgmiaaSameLaw
namespace Go.Proofs.Ytpeccfopffgmiaa

theorem any_set {α : Type} {a b : List α} (h : ∀ x, x ∈ a ↔ x ∈ b) (p : α → Bool) : a.any p = b.any p := by
  rw [Bool.eq_iff_iff, List.any_eq_true, List.any_eq_true]
  exact ⟨fun ⟨x, hx, hp⟩ => ⟨x, (h x).1 hx, hp⟩, fun ⟨x, hx, hp⟩ => ⟨x, (h x).2 hx, hp⟩⟩
theorem seenAt_set {l : List Ver} {a b : List Int} (h : ∀ x, x ∈ a ↔ x ∈ b) (i : Nat) : seenAt l a i = seenAt l b i := any_set h _
theorem keptAt_set {l : List Ver} {a b : List Int} (h : ∀ x, x ∈ a ↔ x ∈ b) (i : Nat) : keptAt l a i = keptAt l b i := by
  unfold keptAt olderAt
  rw [seenAt_set h]
  congr 2
  funext j
  rw [seenAt_set h]
theorem seenL_set {l : List Ver} {a b : List Int} (h : ∀ x, x ∈ a ↔ x ∈ b) : seenL l a = seenL l b := by
  unfold seenL
  rw [show seenAt l a = seenAt l b from funext (seenAt_set h)]
theorem keptL_set {l : List Ver} {a b : List Int} (h : ∀ x, x ∈ a ↔ x ∈ b) : keptL l a = keptL l b := by
  unfold keptL
  rw [show keptAt l a = keptAt l b from funext (keptAt_set h)]
theorem seenAt_more {l : List Ver} {a b : List Int} (h : ∀ x, x ∈ a → x ∈ b) {i : Nat} (hs : seenAt l a i = true) : seenAt l b i = true := by
  unfold seenAt at hs ⊢
  obtain ⟨s, hs, hp⟩ := List.any_eq_true.1 hs
  exact List.any_eq_true.2 ⟨s, h s hs, hp⟩
theorem keptAt_more {l : List Ver} {a b : List Int} (h : ∀ x, x ∈ a → x ∈ b) {i : Nat} (hs : keptAt l a i = true) : keptAt l b i = true := by
  obtain ⟨h1, h2⟩ := older_of_kept hs
  unfold keptAt
  rw [seenAt_more h h1, Bool.true_and]
  unfold olderAt at h2 ⊢
  obtain ⟨j, hj, hp⟩ := List.any_eq_true.1 h2
  simp only [Bool.and_eq_true] at hp
  exact List.any_eq_true.2 ⟨j, hj, by rw [seenAt_more h hp.1, hp.2]; rfl⟩

/-- at a place: what is turned round is the same; with one more nothing is less; kept ones are seen -/
theorem more_at {l : List Ver} {a t : List Int} (h : ∀ x, x ∈ a ↔ x ∈ t) (m : Int) (i : Nat) :
    (seenAt l a i = true → seenAt l (t ++ [m]) i = true) ∧ (keptAt l a i = true → keptAt l (t ++ [m]) i = true) ∧ (keptAt l a i = true → seenAt l a i = true) :=
  ⟨seenAt_more (fun x hx => List.mem_append.2 (.inl ((h x).1 hx))), keptAt_more (fun x hx => List.mem_append.2 (.inl ((h x).1 hx))), fun hk => (older_of_kept hk).1⟩

theorem pos_of (K : Nat → Bool) : ∀ (n p : Nat), p < ((List.range n).filter K).length → ∃ i, i < n ∧ K i = true ∧ p = ((List.range i).filter K).length ∧ ((List.range n).filter K)[p]? = some i
  | 0, p, h => by simp at h
  | n + 1, p, h => by
    rw [List.range_succ, List.filter_append] at h ⊢
    cases hk : K n with
    | false =>
      simp only [List.filter_cons, hk, List.filter_nil] at h ⊢
      simp only [Bool.false_eq_true, if_false, List.append_nil] at h ⊢
      obtain ⟨i, h1, h2, h3, h4⟩ := pos_of K n p h
      exact ⟨i, by omega, h2, h3, h4⟩
    | true =>
      simp only [List.filter_cons, hk, List.filter_nil, if_true] at h ⊢
      rw [List.length_append] at h
      simp only [List.length_cons, List.length_nil] at h
      rcases Nat.lt_or_ge p ((List.range n).filter K).length with hp | hp
      · obtain ⟨i, h1, h2, h3, h4⟩ := pos_of K n p hp
        exact ⟨i, by omega, h2, h3, by rw [List.getElem?_append_left hp]; exact h4⟩
      · have : p = ((List.range n).filter K).length := by omega
        exact ⟨n, by omega, hk, this, by rw [this, List.getElem?_append_right (Nat.le_refl _)]; simp⟩
theorem pos_mono (K : Nat → Bool) {i j : Nat} (h : i ≤ j) : ((List.range i).filter K).length ≤ ((List.range j).filter K).length :=
  (List.Sublist.filter K (List.range_sublist.2 h)).length_le
theorem pos_get (K : Nat → Bool) {n i : Nat} (hi : i < n) (hk : K i = true) : ((List.range n).filter K)[((List.range i).filter K).length]? = some i := by
  have : List.range n = List.range (i + 1) ++ (List.range n).drop (i + 1) := by
    have h1 : (List.range n).take (i + 1) = List.range (i + 1) := by rw [List.take_range, Nat.min_eq_left (by omega)]
    rw [← h1, List.take_append_drop]
  rw [this, List.filter_append, List.range_succ, List.filter_append, List.append_assoc, List.getElem?_append_right (Nat.le_refl _)]
  simp [hk]

theorem sub_kind {l : List Ver} (M : Nat → Bool) {n p i : Nat} (h : ((List.range n).filter M)[p]? = some i) : kindAt (subL l M n) p = kindAt l i := by
  unfold kindAt subL
  rw [List.getD_eq_getElem?_getD, List.getElem?_map, h]
  rfl
theorem kept_again {l : List Ver} {at_ : List Int} (h : mayB l = true) : keptL (subL l (keptAt l at_) l.length) at_ = List.replicate (subL l (keptAt l at_) l.length).length true := by
  have hm : mayB (subL l (keptAt l at_) l.length) = true := (may_iff _).2 (subL_rising ((may_iff _).1 h) _ (Nat.le_refl _))
  have hlen : (subL l (keptAt l at_) l.length).length = ((List.range l.length).filter (keptAt l at_)).length := by simp [subL]
  have hseen : ∀ i, i < l.length → keptAt l at_ i = true → seenAt (subL l (keptAt l at_) l.length) at_ ((List.range i).filter (keptAt l at_)).length = true := by
    intro i _ hk
    obtain ⟨s, hs, hc⟩ := seenAt_inv (older_of_kept hk).1
    refine seenAt_of hm hs ?_
    rw [cnt_sub h, hc, List.range_succ, List.filter_append]
    simp [hk]
  unfold keptL
  rw [if_pos hm]
  apply List.ext_getElem
  · simp
  · intro p h1 h2
    rw [List.getElem_replicate, List.getElem_map, List.getElem_range]
    have hp : p < ((List.range l.length).filter (keptAt l at_)).length := by
      rw [List.length_map, List.length_range, hlen] at h1; exact h1
    obtain ⟨i, hi, hk, hpi, hget⟩ := pos_of _ _ _ hp
    have e : ∀ X p, keptAt X at_ p = (seenAt X at_ p && olderAt X at_ p) := fun _ _ => rfl
    rw [e, hpi, hseen i hi hk, Bool.true_and]
    have hol := (older_of_kept hk).2
    unfold olderAt at hol ⊢
    obtain ⟨j, hj, hp⟩ := List.any_eq_true.1 hol
    simp only [List.mem_range, Bool.and_eq_true, beq_iff_eq] at hj hp
    have hkj : keptAt l at_ j = true := by
      unfold keptAt olderAt
      rw [hp.1, Bool.true_and]
      exact List.any_eq_true.2 ⟨j, by simp, by simp [hp.1, hp.2]⟩
    have hjl : j < l.length := by omega
    refine List.any_eq_true.2 ⟨((List.range j).filter (keptAt l at_)).length, ?_, ?_⟩
    · rw [List.mem_range]
      have := pos_mono (keptAt l at_) (show j ≤ i by omega)
      omega
    · rw [hseen j hjl hkj, sub_kind (keptAt l at_) (pos_get _ hjl hkj)]
      simp [hp.2]
end Go.Proofs.Ytpeccfopffgmiaa
