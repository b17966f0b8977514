/- Seals among others whose ids rise. Plain laws. -/
import Derived.Test.YtedjolkkidciiaaEdFLaw
import Derived.Test.YtedjolkkidciiaaEd11
namespace Go.Proofs.Ytedjolkkidciiaa
open Go.RowKit

def ahead1 (i : Nat) : Sl := ⟨i + 1, 16, 0, 0, 0⟩
def behind1 (id i : Nat) : Sl := ⟨id + i + 1, 16777216, 1, i + 1, 1099511627776⟩
def aheads (k : Nat) : List Sl := (List.range k).map ahead1
def behinds (id k : Nat) : List Sl := (List.range k).map (behind1 id)
theorem aheads_len (k : Nat) : (aheads k).length = k := by simp [aheads]
theorem behinds_len (id k : Nat) : (behinds id k).length = k := by simp [behinds]
theorem aheads_succ (k : Nat) : aheads (k + 1) = aheads k ++ [ahead1 k] := by simp [aheads, List.range_succ]
theorem behinds_succ (id k : Nat) : behinds id (k + 1) = behinds id k ++ [behind1 id k] := by simp [behinds, List.range_succ]
/-- the seals of the law: p ahead, s, q behind -/
def sealsOf (s : Sl) (p q : Nat) : List Sl := aheads p ++ [s] ++ behinds s.id q
theorem sealsOf_len (s : Sl) (p q : Nat) : (sealsOf s p q).length = p + 1 + q := by simp [sealsOf, aheads_len, behinds_len]; omega
/-- the highest id of a row -/
def topId (a : Nat) : List Sl → Nat
  | [] => a
  | s :: r => topId s.id r
theorem topId_append : ∀ (l r : List Sl) (a : Nat), topId a (l ++ r) = topId (topId a l) r
  | [], _, _ => rfl
  | s :: l, r, _ => topId_append l r s.id
theorem maySls_append : ∀ (l r : List Sl) (a : Nat), maySls a (l ++ r) = (maySls a l && maySls (topId a l) r)
  | [], _, _ => rfl
  | s :: l, r, a => by
    show (maySl s && decide (a < s.id) && maySls s.id (l ++ r)) = ((maySl s && decide (a < s.id) && maySls s.id l) && maySls (topId s.id l) r)
    rw [maySls_append l r s.id, Bool.and_assoc (maySl s && decide (a < s.id))]
theorem aheads_may : ∀ p : Nat, p ≤ 16777215 → maySls 0 (aheads p) = true ∧ topId 0 (aheads p) = p
  | 0, _ => ⟨rfl, rfl⟩
  | p + 1, h => by
    obtain ⟨h1, h2⟩ := aheads_may p (by omega)
    rw [aheads_succ, maySls_append, topId_append, h1, h2]
    refine ⟨?_, rfl⟩
    have : maySl (ahead1 p) = true := maySl_iff.2 ⟨by show 1 ≤ p + 1; omega, by show p + 1 ≤ _; omega, Nat.le_refl _, by show 16 ≤ 16777216; decide, fun _ => ⟨rfl, rfl⟩, fun h => absurd rfl h⟩
    show (true && (maySl (ahead1 p) && decide (p < p + 1) && true)) = true
    rw [this, decide_eq_true (by omega : p < p + 1)]
    rfl
theorem behinds_may (id : Nat) : ∀ q : Nat, q ≤ 100 → id + q ≤ 16777215 → maySls id (behinds id q) = true ∧ topId id (behinds id q) = id + q
  | 0, _, _ => ⟨rfl, rfl⟩
  | q + 1, hq, h => by
    obtain ⟨h1, h2⟩ := behinds_may id q (by omega) (by omega)
    rw [behinds_succ, maySls_append, topId_append, h1, h2]
    refine ⟨?_, rfl⟩
    have : maySl (behind1 id q) = true := maySl_iff.2 ⟨by show 1 ≤ id + q + 1; omega, by show id + q + 1 ≤ _; omega, by show 16 ≤ 16777216; decide, by show 16777216 ≤ 16777216; decide, fun h => absurd h (by show ¬ 1 = 0; decide), fun _ => ⟨by show 1 ≤ q + 1; omega, by show q + 1 ≤ 1099511627776; omega, Nat.le_refl _, Nat.zero_le _⟩⟩
    show (true && (maySl (behind1 id q) && decide (id + q < id + q + 1) && true)) = true
    rw [this, decide_eq_true (by omega : id + q < id + q + 1)]
    rfl
theorem sealsOf_may {s : Sl} (hs : maySl s = true) {p q : Nat} (hp : p < s.id) (hq : s.id + q ≤ 16777215) (hq2 : q ≤ 100) : maySls 0 (sealsOf s p q) = true ∧ topId 0 (sealsOf s p q) = s.id + q := by
  have hid := (maySl_iff.1 hs).2.1
  obtain ⟨h1, h2⟩ := aheads_may p (by omega)
  obtain ⟨h3, h4⟩ := behinds_may s.id q hq2 hq
  unfold sealsOf
  have e2 : topId p [s] = s.id := rfl
  rw [maySls_append, maySls_append, topId_append (aheads p ++ [s]), topId_append (aheads p), h1, h2, e2, h3, h4]
  refine ⟨?_, rfl⟩
  show (true && (maySl s && decide (p < s.id) && true) && true) = true
  rw [hs, decide_eq_true hp]
  rfl
theorem topId_le : ∀ (l : List Sl) (a : Nat), maySls a l = true → a ≤ topId a l
  | [], a, _ => Nat.le_refl a
  | s :: l, a, h => by
    rw [maySls, Bool.and_eq_true, Bool.and_eq_true, decide_eq_true_eq] at h
    have := topId_le l s.id h.2
    show a ≤ topId s.id l
    omega
/-- a row's first once more behind it: the ids do not rise -/
theorem again_not {a : Nat} {s : Sl} {l : List Sl} : maySls a ((s :: l) ++ [s]) = false := by
  cases h : maySls a (s :: l) with
  | false => rw [maySls_append, h]; rfl
  | true =>
    rw [maySls_append, h]
    have h2 := h
    rw [maySls, Bool.and_eq_true, Bool.and_eq_true] at h2
    have h1 := topId_le l s.id h2.2
    show (true && (maySl s && decide (topId s.id l < s.id) && true)) = false
    rw [decide_eq_false (by omega)]
    simp
theorem may6 (seq : Nat) (l : List Sl) (hs : seq ≤ 1099511627776) (hl : l.length ≤ 200) : mayEd ⟨6, [], seq, 0, l⟩ = maySls 0 l := by
  unfold mayEd
  dsimp only
  rw [decide_eq_true hs, decide_eq_true hl]
  simp [isKind, hasSeq, hasName, hasId, hasSeals]
theorem may5 (s : Sl) : mayEd ⟨5, [], 0, 0, [s]⟩ = maySl s := by
  have h : maySl s = true → 0 < s.id := fun h => (maySl_iff.1 h).1
  unfold mayEd
  dsimp only
  cases hs : maySl s with
  | false => simp [maySls, hs]
  | true => simp [maySls, hs, h hs, isKind, hasSeq, hasName, hasId, hasSeals]
theorem may6one (s : Sl) : mayEd ⟨6, [], 0, 0, [s]⟩ = maySl s := by
  rw [may6 0 [s] (by omega) (by simp)]
  have h : maySl s = true → 0 < s.id := fun h => (maySl_iff.1 h).1
  cases hs : maySl s with
  | false => simp [maySls, hs]
  | true => simp [maySls, hs, h hs]
theorem ahead1_fits {i : Nat} (h : i < 1000) : (ahead1 i).fits := ⟨by show i + 1 < _; omega, by show 16 < _; omega, by show 0 < _; omega, by show 0 < _; omega, by show 0 < _; omega⟩
theorem behind1_fits {id i : Nat} (h : i < 1000) (hid : id ≤ 16777215) : (behind1 id i).fits := ⟨by show id + i + 1 < _; omega, by show 16777216 < _; omega, by show 1 < _; omega, by show i + 1 < _; omega, by show 1099511627776 < _; omega⟩
theorem sealsOf_fits {s : Sl} (hs : s.fits) (hid : s.id ≤ 16777215) {p q : Nat} (hp : p ≤ 100) (hq : q ≤ 100) : ∀ x ∈ sealsOf s p q, x.fits := by
  intro x hx
  unfold sealsOf at hx
  rcases List.mem_append.1 hx with hx | hx
  · rcases List.mem_append.1 hx with hx | hx
    · obtain ⟨i, hi, rfl⟩ := List.mem_map.1 hx
      exact ahead1_fits (by have := List.mem_range.1 hi; omega)
    · rw [List.mem_singleton.1 hx]; exact hs
  · obtain ⟨i, hi, rfl⟩ := List.mem_map.1 hx
    exact behind1_fits (by have := List.mem_range.1 hi; omega) hid
/-- putting an edit that is spelt out -/
theorem put_gen (d : Ed) (hd : d.fits) (E : Array Value) (A : Option Addr) (n c : Nat) (hE : edC d ⟨d.name.toArray⟩ (.slice A n c) = E) (w : World) (hn : d.seals.length = n) (hr : Rd w w.heap.size 5 A n (slCells d.seals)) (hnc : n ≤ c) :
    Calls Try.prog 15 #[.agg E] w (RetPutE w d) := by
  rw [← hE]
  exact putEd_any d hd A n c w hn hr hnc
end Go.Proofs.Ytedjolkkidciiaa
