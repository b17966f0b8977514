/- Edits: what is put is read as it was, whatever stands behind; what is read is what was put. Plain laws. -/
import Derived.Test.YtedjolkkidciiaaEd4
import Derived.Test.YtedjolkkidciiaaEd8
namespace Go.Proofs.Ytedjolkkidciiaa
open Go.RowKit

theorem rdNum_form {least most x : Nat} (h1 : least ≤ x) (h2 : x ≤ most) (hx : x < 18446744073709551616) (r : List UInt8) : rdNum least most (pform x ++ r) = .ok (x, r) := by
  unfold rdNum
  rw [getP_form x hx r]
  rw [if_pos rfl, if_neg (by show ¬ (x < least ∨ most < x); omega)]
  show Except.ok (x, (pform x ++ r).drop (psize x)) = _
  rw [List.drop_append, List.drop_of_length_le (by rw [pform_len]; exact Nat.le_refl _), pform_len, Nat.sub_self]
  rfl
theorem maySl_iff {s : Sl} : maySl s = true ↔ 1 ≤ s.id ∧ s.id ≤ 16777215 ∧ 16 ≤ s.size ∧ s.size ≤ 16777216 ∧ (s.many = 0 → s.first = 0 ∧ s.last = 0) ∧ (¬ s.many = 0 → 1 ≤ s.first ∧ s.first ≤ s.last ∧ s.last ≤ 1099511627776 ∧ s.many - 1 ≤ s.last - s.first) := by
  unfold maySl
  by_cases h : s.many = 0
  · simp [h]
    omega
  · simp [h]
    omega
theorem rdSl_form {s : Sl} (hs : maySl s = true) (hm : s.many < 4294967296) {id : Nat} (hid : id ≤ s.id) (r : List UInt8) : rdSl id (slB s ++ r) = .ok (s, r) := by
  obtain ⟨h1, h2, h3, h4, h5, h6⟩ := maySl_iff.1 hs
  obtain ⟨i, z, m, f, l⟩ := s
  dsimp only at *
  unfold rdSl slB
  dsimp only
  by_cases h0 : m = 0
  · obtain ⟨rfl, rfl⟩ := h5 h0
    subst h0
    rw [if_pos rfl, List.append_nil, List.append_assoc, List.append_assoc, rdNum_form hid h2 (by omega), bind_ok, rdNum_form h3 h4 (by omega), bind_ok, rdNum_form (by omega) (by omega) (by omega), bind_ok, if_pos rfl]
  · obtain ⟨a1, a2, a3, a4⟩ := h6 h0
    rw [if_neg h0]
    simp only [List.append_assoc]
    rw [rdNum_form hid h2 (by omega), bind_ok, rdNum_form h3 h4 (by omega), bind_ok, rdNum_form (by omega) (by omega) (by omega), bind_ok, if_neg h0, rdNum_form a1 (by omega) (by omega), bind_ok, rdNum_form a4 (by omega) (by omega), bind_ok]
    rw [show f + (l - f) = l by omega]
theorem rdSls_form : ∀ {l : List Sl} {p : Nat}, maySls p l = true → (∀ s ∈ l, s.many < 4294967296) → ∀ r, rdSls l.length (p + 1) (l.flatMap slB ++ r) = .ok (l, r)
  | [], _, _, _, r => rfl
  | s :: t, p, h, hm, r => by
    rw [maySls, Bool.and_eq_true, Bool.and_eq_true, decide_eq_true_eq] at h
    show bindR (rdSl (p + 1) ((slB s ++ t.flatMap slB) ++ r)) (fun s l => bindR (rdSls t.length (s.id + 1) l) fun r l => .ok (s :: r, l)) = _
    rw [List.append_assoc, rdSl_form h.1.1 (hm s (by simp)) (by omega), bind_ok, rdSls_form h.2 (fun x hx => hm x (by simp [hx])), bind_ok]
theorem rdText_form (a r : List UInt8) : rdText a.length (a ++ r) = .ok (a, r) := by
  unfold rdText
  rw [if_neg (by simp), List.take_left, List.drop_left]
theorem isKind_of {d : Ed} (hm : mayEd d = true) : d.kind = 1 ∨ d.kind = 2 ∨ d.kind = 3 ∨ d.kind = 4 ∨ d.kind = 5 ∨ d.kind = 6 := by
  have : isKind d.kind = true := by
    cases h : isKind d.kind with
    | true => rfl
    | false => rw [mayEd_bad h] at hm; cases hm
  unfold isKind at this
  simp at this
  omega
/-- what Put has put is read as it was; with bytes behind it is refused -/
theorem rdEd_form {d : Ed} (hd : d.fits) (hm : mayEd d = true) (r : List UInt8) : rdEd (edB d ++ r) = rdFin d r := by
  have hk := isKind_of hm
  obtain ⟨h1, h2, h3, h4⟩ := hd
  have hsm : ∀ s ∈ d.seals, s.many < 4294967296 := fun s hs => (h4 s hs).2.2.1
  obtain ⟨k, nm, seq, id, sl⟩ := d
  dsimp only at *
  rcases hk with rfl | rfl | rfl | rfl | rfl | rfl
  all_goals simp [mayEd, isKind, hasSeq, hasName, hasId, hasSeals] at hm
  · obtain ⟨⟨⟨⟨⟨a, rfl⟩, rfl⟩, rfl⟩, -⟩, -⟩ := hm
    simp only [edB, hasSeq, hasName, hasId]
    simp
    rw [rd1 rfl, rdNum_form (by omega) a (by omega), bind_ok]
  · obtain ⟨⟨⟨⟨⟨a, b1, b2⟩, rfl⟩, rfl⟩, -⟩, -⟩ := hm
    simp only [edB, hasSeq, hasName, hasId]
    simp
    rw [rd2 rfl, rdNum_form (by omega) a (by omega), bind_ok, rdNum_form b1 b2 (by omega), bind_ok, rdText_form, bind_ok]
  · obtain ⟨⟨⟨⟨⟨-, rfl⟩, b1, b2⟩, rfl⟩, rfl⟩, -⟩ := hm.1
    simp only [edB, hasSeq, hasName, hasId]
    simp
    rw [rd3 rfl, rdNum_form b1 b2 (by omega), bind_ok, rdText_form, bind_ok]
  · obtain ⟨⟨⟨⟨⟨-, rfl⟩, rfl⟩, b1, b2⟩, rfl⟩, -⟩ := hm.1
    simp only [edB, hasSeq, hasName, hasId]
    simp
    rw [rd4 rfl, rdNum_form b1 b2 (by omega), bind_ok]
  · obtain ⟨⟨⟨⟨⟨⟨-, rfl⟩, rfl⟩, rfl⟩, hl⟩, -⟩, hms⟩ := hm
    have h9 := rdSls_form hms hsm r
    rw [hl] at h9
    simp only [edB, hasSeq, hasName, hasId]
    simp
    rw [rd5 rfl, h9, bind_ok]
  · have hsq : seq ≤ 1099511627776 := by omega
    have hnl : nm = [] := by have := hm.1; simp_all
    have hi : id = 0 := by have := hm.1; simp_all
    have hn : sl.length ≤ 200 := by omega
    have h9 := rdSls_form hm.2 hsm r
    subst hnl
    subst hi
    simp only [edB, hasSeq, hasName, hasId]
    simp
    rw [rd6 rfl, rdNum_form (by omega) hsq (by omega), bind_ok, rdNum_form (by omega) hn (by omega), bind_ok, h9, bind_ok]
theorem rdEd_put {d : Ed} (hd : d.fits) (hm : mayEd d = true) : rdEd (edB d) = .ok d := by
  have := rdEd_form hd hm []
  rw [List.append_nil] at this
  rw [this]
  rfl
/-- an edit's bytes do not begin another one's -/
theorem edB_prefix {a b : Ed} (ha : a.fits) (hb : b.fits) (hma : mayEd a = true) (hmb : mayEd b = true) (h : edB a <+: edB b) : a = b := by
  obtain ⟨r, hr⟩ := h
  have h1 := rdEd_form ha hma r
  rw [hr, rdEd_put hb hmb] at h1
  unfold rdFin at h1
  split at h1
  · cases h1
  · injection h1 with h1; exact h1.symm
theorem edB_pos {d : Ed} : 0 < (edB d).length := by unfold edB; simp
theorem edB_head {d : Ed} (hm : mayEd d = true) : ((edB d).getD 0 0).toNat = d.kind := by
  have hk := isKind_of hm
  have : (edB d).getD 0 0 = UInt8.ofNat d.kind.toNat := by unfold edB; simp
  rw [this]
  rcases hk with h | h | h | h | h | h <;> rw [h] <;> rfl
end Go.Proofs.Ytedjolkkidciiaa
