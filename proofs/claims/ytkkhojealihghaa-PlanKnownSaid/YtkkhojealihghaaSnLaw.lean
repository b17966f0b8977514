/- What versions say, in plain words: may they be, which is the newest at a number, which are seen, which are kept. No program in sight, no condition. -/
namespace Go.Proofs.Ytkkhojealihghaa.Sn
abbrev Ver := Int × Int

def mayFrom (last : Int) : List Ver → Bool
  | [] => true
  | v :: r => decide (last < v.1) && decide (v.1 ≤ 1099511627776) && (v.2 == 1 || v.2 == 2) && mayFrom v.1 r
def mayB (l : List Ver) : Bool := mayFrom 0 l
def cnt (l : List Ver) (s : Int) : Nat := (l.takeWhile fun v => decide (v.1 ≤ s)).length
/-- the newest version's place at a number -/
def newK (l : List Ver) (s : Int) : Nat := if mayB l then cnt l s - 1 else 0
def newIs (l : List Ver) (s : Int) : Bool := mayB l && decide (0 < cnt l s)
def kindAt (l : List Ver) (k : Nat) : Int := (l.getD k (0, 0)).2
def thereB (l : List Ver) (s : Int) : Bool := newIs l s && kindAt l (newK l s) == 1
def seenAt (l : List Ver) (at_ : List Int) (i : Nat) : Bool := at_.any fun s => newIs l s && newK l s == i
def seenL (l : List Ver) (at_ : List Int) : List Bool := if mayB l then (List.range l.length).map (seenAt l at_) else []
def olderAt (l : List Ver) (at_ : List Int) (i : Nat) : Bool := (List.range (i + 1)).any fun j => seenAt l at_ j && kindAt l j == 1
def keptAt (l : List Ver) (at_ : List Int) (i : Nat) : Bool := seenAt l at_ i && olderAt l at_ i
def keptL (l : List Ver) (at_ : List Int) : List Bool := if mayB l then (List.range l.length).map (keptAt l at_) else []

def seqAt (l : List Ver) (k : Nat) : Int := (l.getD k (0, 0)).1
theorem seqAt_eq {l : List Ver} {k : Nat} (hk : k < l.length) : seqAt l k = (l[k]).1 := by simp [seqAt, List.getD, hk]
theorem kindAt_eq {l : List Ver} {k : Nat} (hk : k < l.length) : kindAt l k = (l[k]).2 := by simp [kindAt, List.getD, hk]
theorem cnt_le (l : List Ver) (s : Int) : cnt l s ≤ l.length := (List.takeWhile_prefix _).length_le

theorem mayFrom_step (last a b : Int) (r : List Ver) : mayFrom last ((a, b) :: r) = (decide (last < a) && decide (a ≤ 1099511627776) && (b == 1 || b == 2) && mayFrom a r) := rfl

theorem may_rises : ∀ (l : List Ver) (last : Int), mayFrom last l = true → ∀ i (hi : i < l.length), last < (l[i]).1 ∧ (l[i]).1 ≤ 1099511627776 ∧ ((l[i]).2 = 1 ∨ (l[i]).2 = 2) ∧ ∀ j (hj : j < l.length), i < j → (l[i]).1 < (l[j]).1
  | [], _, _, i, hi => absurd hi (by simp)
  | v :: r, last, h, i, hi => by
    obtain ⟨a, b⟩ := v
    rw [mayFrom_step] at h
    simp only [Bool.and_eq_true, decide_eq_true_eq, Bool.or_eq_true, beq_iff_eq] at h
    obtain ⟨⟨⟨h1, h2⟩, h3⟩, h4⟩ := h
    have ih := may_rises r a h4
    cases i with
    | zero =>
      refine ⟨h1, h2, h3, fun j hj hij => ?_⟩
      cases j with
      | zero => omega
      | succ j => exact (ih j (by simpa using hj)).1
    | succ i =>
      obtain ⟨g1, g2, g3, g4⟩ := ih i (by simpa using hi)
      refine ⟨Int.lt_trans h1 g1, g2, g3, fun j hj hij => ?_⟩
      cases j with
      | zero => omega
      | succ j => exact g4 j (by simpa using hj) (by omega)

/-- of rising versions: the one at place k is at most s just if k is below their number -/
theorem cnt_iff (s : Int) : ∀ (l : List Ver) (last : Int), mayFrom last l = true → ∀ k (hk : k < l.length), (l[k]).1 ≤ s ↔ k < cnt l s
  | [], _, _, k, hk => absurd hk (by simp)
  | v :: r, last, h, k, hk => by
    obtain ⟨a, b⟩ := v
    have hr := may_rises _ _ h
    rw [mayFrom_step] at h
    simp only [Bool.and_eq_true, decide_eq_true_eq, Bool.or_eq_true, beq_iff_eq] at h
    have ih := cnt_iff s r a h.2
    by_cases ha : a ≤ s
    · have hc : cnt ((a, b) :: r) s = cnt r s + 1 := by simp [cnt, ha]
      rw [hc]
      cases k with
      | zero => simp [ha]
      | succ k => rw [List.getElem_cons_succ, ih k (by simpa using hk)]; omega
    · have hc : cnt ((a, b) :: r) s = 0 := by simp [cnt, ha]
      rw [hc]
      cases k with
      | zero => simp [ha]
      | succ k =>
        have := (hr 0 (by simp)).2.2.2 (k + 1) hk (by omega)
        rw [List.getElem_cons_zero] at this
        constructor
        · intro h'; exact absurd (Int.le_trans (Int.le_of_lt this) h') ha
        · omega
theorem may_cnt {l : List Ver} (h : mayB l = true) (s : Int) (k : Nat) (hk : k < l.length) : seqAt l k ≤ s ↔ k < cnt l s := by rw [seqAt_eq hk]; exact cnt_iff s l 0 h k hk

theorem newK_lt {l : List Ver} {s : Int} (h : newIs l s = true) : newK l s < l.length := by
  unfold newIs at h
  simp only [Bool.and_eq_true, decide_eq_true_eq] at h
  have := cnt_le l s
  unfold newK
  rw [if_pos h.1]
  omega

theorem kept_step (l : List Ver) (at_ : List Int) (i : Nat) : keptAt l at_ i = (seenAt l at_ i && (kindAt l i == 1 || (List.range i).any (keptAt l at_))) := by
  have hold : ∀ n, (List.range n).any (keptAt l at_) = (List.range n).any fun j => seenAt l at_ j && kindAt l j == 1 := by
    intro n
    rw [Bool.eq_iff_iff, List.any_eq_true, List.any_eq_true]
    constructor
    · rintro ⟨k, hk, h⟩
      unfold keptAt olderAt at h
      simp only [Bool.and_eq_true, List.any_eq_true] at h
      obtain ⟨_, j, hj, h'⟩ := h
      exact ⟨j, by simp at hk hj ⊢; omega, by simpa using h'⟩
    · rintro ⟨k, hk, h⟩
      refine ⟨k, hk, ?_⟩
      simp only [Bool.and_eq_true] at h
      unfold keptAt olderAt
      simp only [Bool.and_eq_true, List.any_eq_true]
      exact ⟨h.1, k, by simp, by simpa using h⟩
  rw [hold]
  unfold keptAt olderAt
  rw [List.range_succ, List.any_append]
  cases h : seenAt l at_ i <;> simp [h, Bool.or_comm]

/-- the place that is seen at a number -/
def hit (l : List Ver) (s : Int) : Option (Fin l.length) := if h : 0 < cnt l s then some ⟨cnt l s - 1, by have := cnt_le l s; omega⟩ else none
def hits (l : List Ver) (at_ : List Int) : List (Fin l.length) := at_.filterMap (hit l)
theorem hits_none {l : List Ver} {at_ : List Int} {k : Nat} (hk : k < at_.length) (h : cnt l at_[k] = 0) : hits l (at_.take (k + 1)) = hits l (at_.take k) := by
  unfold hits
  rw [List.take_succ_eq_append_getElem hk, List.filterMap_append]
  simp [hit, h]
theorem hits_some {l : List Ver} {at_ : List Int} {k j : Nat} (hk : k < at_.length) (h : cnt l at_[k] = j + 1) (hj : j < l.length) : hits l (at_.take (k + 1)) = hits l (at_.take k) ++ [⟨j, hj⟩] := by
  unfold hits
  rw [List.take_succ_eq_append_getElem hk, List.filterMap_append]
  simp [hit, h]
theorem hits_lt {l : List Ver} {at_ : List Int} {k j : Nat} (hk : k < at_.length) (h : cnt l at_[k] = j + 1) (hj : j < l.length) : (hits l (at_.take k)).length < (hits l at_).length := by
  have h1 := hits_some hk h hj
  have h2 : hits l at_ = hits l (at_.take (k + 1)) ++ hits l (at_.drop (k + 1)) := by
    unfold hits
    rw [← List.filterMap_append, List.take_append_drop]
  rw [h2, h1]
  simp only [List.length_append, List.length_cons, List.length_nil]
  omega
/-- which places have been marked -/
def marks {n : Nat} (pre : List (Fin n)) : List Bool := (List.range n).map fun i => pre.any fun x => x.val == i
theorem marks_len {n : Nat} (pre : List (Fin n)) : (marks pre).length = n := by simp [marks]
theorem marks_nil (n : Nat) : marks ([] : List (Fin n)) = List.replicate n false := by
  unfold marks
  simp only [List.any_nil]
  rw [List.map_const', List.length_range]
theorem marks_set {n : Nat} (pre : List (Fin n)) (x : Fin n) : marks (pre ++ [x]) = (marks pre).set x.val true := by
  apply List.ext_getElem
  · simp [marks]
  · intro i h1 h2
    rw [List.getElem_set]
    simp only [marks, List.getElem_map, List.getElem_range, List.any_append, List.any_cons, List.any_nil, Bool.or_false]
    by_cases h : x.val = i
    · simp [h]
    · simp [h]
theorem marks_hits {l : List Ver} (hmay : mayB l = true) (at_ : List Int) : marks (hits l at_) = seenL l at_ := by
  unfold marks seenL
  rw [if_pos hmay]
  apply List.map_congr_left
  intro i hi
  unfold hits seenAt
  rw [Bool.eq_iff_iff, List.any_eq_true, List.any_eq_true]
  constructor
  · rintro ⟨x, hx, h⟩
    rw [List.mem_filterMap] at hx
    obtain ⟨s, hs, he⟩ := hx
    refine ⟨s, hs, ?_⟩
    unfold hit at he
    split at he
    · rename_i hc
      injection he with he
      subst he
      simp only [beq_iff_eq] at h
      simp [newIs, newK, hmay, hc, h]
    · cases he
  · rintro ⟨s, hs, h⟩
    simp only [newIs, newK, hmay, Bool.true_and, if_true, Bool.and_eq_true, decide_eq_true_eq, beq_iff_eq] at h
    refine ⟨⟨cnt l s - 1, by have := cnt_le l s; omega⟩, ?_, by simp [h.2]⟩
    rw [List.mem_filterMap]
    exact ⟨s, hs, by simp [hit, h.1]⟩

/-- the row while it is gone through: kept ones up to k, seen ones behind -/
def keptCur (l : List Ver) (at_ : List Int) (k : Nat) : List Bool := (List.range l.length).map fun i => if i < k then keptAt l at_ i else seenAt l at_ i
def oldTo (l : List Ver) (at_ : List Int) (k : Nat) : Bool := (List.range k).any fun j => seenAt l at_ j && kindAt l j == 1
theorem keptCur_len (l : List Ver) (at_ : List Int) (k : Nat) : (keptCur l at_ k).length = l.length := by simp [keptCur]
theorem keptCur_0 {l : List Ver} (h : mayB l = true) (at_ : List Int) : keptCur l at_ 0 = seenL l at_ := by simp [keptCur, seenL, h]
theorem keptCur_all {l : List Ver} (h : mayB l = true) (at_ : List Int) : keptCur l at_ l.length = keptL l at_ := by
  unfold keptCur keptL
  rw [if_pos h]
  apply List.map_congr_left
  intro i hi
  rw [if_pos (by simpa using hi)]
theorem keptCur_get {l : List Ver} (at_ : List Int) {k : Nat} (hk : k < l.length) : (keptCur l at_ k)[k]? = some (seenAt l at_ k) := by
  simp [keptCur, hk]
theorem oldTo_succ (l : List Ver) (at_ : List Int) (k : Nat) : oldTo l at_ (k + 1) = (oldTo l at_ k || (seenAt l at_ k && kindAt l k == 1)) := by
  unfold oldTo
  rw [List.range_succ, List.any_append]
  simp
theorem keptCur_succ (l : List Ver) (at_ : List Int) (k : Nat) : keptCur l at_ (k + 1) = (keptCur l at_ k).set k (seenAt l at_ k && oldTo l at_ (k + 1)) := by
  apply List.ext_getElem
  · simp [keptCur]
  · intro i h1 h2
    rw [List.getElem_set]
    simp only [keptCur, List.getElem_map, List.getElem_range]
    by_cases h : k = i
    · subst h
      rw [if_pos (by omega), if_pos rfl]
      rfl
    · rw [if_neg h]
      by_cases h' : i < k
      · rw [if_pos (by omega), if_pos h']
      · rw [if_neg (by omega), if_neg h']
theorem seenL_len {l : List Ver} (h : mayB l = true) (at_ : List Int) : (seenL l at_).length = l.length := by simp [seenL, h]
theorem keptL_len {l : List Ver} (h : mayB l = true) (at_ : List Int) : (keptL l at_).length = l.length := by simp [keptL, h]

theorem seenL_of {l : List Ver} (h : 0 < l.length → mayB l = true) (at_ : List Int) : seenL l at_ = (List.range l.length).map (seenAt l at_) := by
  unfold seenL
  rcases Nat.eq_zero_or_pos l.length with h0 | h0
  · rw [h0]; simp
  · rw [if_pos (h h0)]
theorem keptL_of {l : List Ver} (h : 0 < l.length → mayB l = true) (at_ : List Int) : keptL l at_ = (List.range l.length).map (keptAt l at_) := by
  unfold keptL
  rcases Nat.eq_zero_or_pos l.length with h0 | h0
  · rw [h0]; simp
  · rw [if_pos (h h0)]
end Go.Proofs.Ytkkhojealihghaa.Sn
