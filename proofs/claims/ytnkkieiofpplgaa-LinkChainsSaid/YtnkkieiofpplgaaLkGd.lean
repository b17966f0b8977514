/- Rows of records that are well linked, and what links are once they are added. Plain laws, for every such row. -/
import Derived.Test.YtnkkieiofpplgaaLkRows
namespace Go.Proofs.Ytnkkieiofpplgaa
open Go.RowKit

/-! ### the law's rows are well linked -/
theorem locI_inj {i j : Nat} (h : locI i = locI j) : i = j := by
  unfold locI at h
  injection h with h1 h2
  omega
theorem rows_gd : ∀ (n : Nat) (l : List Stp), l.length = n → n ≤ 60 → Gd (rowsR l) ∧ (∀ x ∈ rowsR l, ∃ i, i < n ∧ x.at_ = locI i) ∧ (∀ x ∈ rowsR l, x.q ≤ seqOf (rowsR l)) ∧ seqOf (rowsR l) ≤ 256 * n
  | 0, l, hl, _ => by
    have : l = [] := List.eq_nil_of_length_eq_zero hl
    subst this
    exact ⟨Gd.nil, fun x hx => (by cases hx), fun x hx => (by cases hx), Nat.le_refl _⟩
  | n + 1, l, hl, hn => by
    have hne : l ≠ [] := fun e => by rw [e] at hl; simp at hl
    have he := List.dropLast_concat_getLast hne
    obtain ⟨h1, h2, h3, h4⟩ := rows_gd n l.dropLast (by rw [List.length_dropLast]; omega) (by omega)
    rw [← he, rowsR_snoc]
    have hdl : (rowsR l.dropLast).length = n := by rw [rowsR_len, List.length_dropLast]; omega
    generalize l.getLast hne = s at *
    generalize rowsR l.dropLast = d at *
    have hs := s.a.toNat_lt
    have hf : Fit d (nextR d s) := by
      refine ⟨fun x hx => ?_, ?_, ?_, fun x hx => ?_, ?_, ?_, rfl⟩
      · have := h3 x hx
        show x.q < seqOf d + (1 + s.a.toNat)
        omega
      · show 1 ≤ seqOf d + (1 + s.a.toNat)
        omega
      · show seqOf d + (1 + s.a.toNat) ≤ _
        omega
      · obtain ⟨i, hi, he⟩ := h2 x hx
        rw [he]
        intro e
        have := locI_inj e
        omega
      · show standsB (1 + d.length / 10) (16 + d.length % 10 * 30) = true
        unfold standsB
        exact decide_eq_true (by omega)
      · unfold nextR
        dsimp only
        cases s.gone <;> simp
    refine ⟨h1.snoc hf, fun x hx => ?_, fun x hx => ?_, ?_⟩
    · rcases List.mem_append.1 hx with h | h
      · obtain ⟨i, hi, he⟩ := h2 x h
        exact ⟨i, by omega, he⟩
      · rw [List.mem_singleton.1 h]
        exact ⟨n, by omega, by show locI d.length = _; rw [hdl]⟩
    · rw [seqOf_snoc]
      rcases List.mem_append.1 hx with h | h
      · exact Nat.le_of_lt (hf.q x h)
      · rw [List.mem_singleton.1 h]
        exact Nat.le_refl _
    · rw [seqOf_snoc]
      show seqOf d + (1 + s.a.toNat) ≤ _
      omega
theorem rows_key {l : List Stp} : ∀ r ∈ rowsR l, 97 ≤ r.c.toNat ∧ r.c.toNat ≤ 104 := by
  have h : ∀ (l : List Stp) (d : List LR), (∀ r ∈ d, 97 ≤ r.c.toNat ∧ r.c.toNat ≤ 104) → ∀ r ∈ l.foldl (fun d s => d ++ [nextR d s]) d, 97 ≤ r.c.toNat ∧ r.c.toNat ≤ 104 := by
    intro l
    induction l with
    | nil => intro d h; exact h
    | cons s l ih =>
      intro d h
      refine ih _ fun r hr => ?_
      rcases List.mem_append.1 hr with h1 | h1
      · exact h r h1
      · rw [List.mem_singleton.1 h1]
        show 97 ≤ (UInt8.ofNat (97 + s.k.toNat % 8)).toNat ∧ (UInt8.ofNat (97 + s.k.toNat % 8)).toNat ≤ 104
        rw [UInt8.toNat_ofNat']
        omega
  exact h l [] fun r hr => by cases hr
end Go.Proofs.Ytnkkieiofpplgaa
