/- Chains of records of a key. Plain laws, for every row that is well linked. -/
import Derived.Test.YtnkkieiofpplgaaLkIs
namespace Go.Proofs.Ytnkkieiofpplgaa
open Go.RowKit

def rcs (d : List LR) (c : UInt8) : List LR := d.filter fun r => r.c == c
theorem rcs_snoc (d : List LR) (r : LR) (c : UInt8) : rcs (d ++ [r]) c = if r.c = c then rcs d c ++ [r] else rcs d c := by
  unfold rcs
  rw [List.filter_append]
  by_cases h : r.c = c
  · simp [h]
  · simp [h]
/-- the loc of the record ahead of place j -/
def atK (R : List LR) (j : Nat) : Nat × Nat := ((R.take j).getLast?.map LR.at_).getD (0, 0)
theorem atK_0 (R : List LR) : atK R 0 = (0, 0) := by simp [atK]
theorem atK_succ {R : List LR} {j : Nat} {r : LR} (h : R[j]? = some r) : atK R (j + 1) = r.at_ := by
  unfold atK
  rw [List.take_add_one, h]
  simp
theorem atK_len (R : List LR) : atK R R.length = (R.getLast?.map LR.at_).getD (0, 0) := by unfold atK; rw [List.take_length]
theorem Gd.chain {d : List LR} (g : Gd d) (c : UInt8) : ∀ {j : Nat} {r : LR}, (rcs d c)[j]? = some r → r.pv = atK (rcs d c) j := by
  induction g with
  | nil => intro j r h; simp [rcs] at h
  | @snoc d r0 g f ih =>
    intro j r h
    rw [rcs_snoc] at h ⊢
    by_cases hc : r0.c = c
    · rw [if_pos hc] at h ⊢
      by_cases hj : j < (rcs d c).length
      · rw [List.getElem?_append_left hj] at h
        rw [ih h]
        unfold atK
        rw [List.take_append_of_le_length (by omega)]
      · have hlt := (List.getElem?_eq_some_iff.1 h).1
        rw [List.length_append] at hlt
        have : j = (rcs d c).length := by simp at hlt; omega
        subst this
        rw [List.getElem?_append_right (Nat.le_refl _)] at h
        simp at h
        subst h
        unfold atK
        rw [List.take_left, f.pv, locs_last, hc]
        rfl
    · rw [if_neg hc] at h ⊢
      exact ih h
theorem rcs_last (d : List LR) (c : UInt8) : lastOf d c = (rcs d c).getLast? := rfl
theorem rcs_mem {d : List LR} {c : UInt8} {r : LR} (h : r ∈ rcs d c) : r ∈ d ∧ r.c = c := by
  unfold rcs at h
  simpa using h
theorem Is.ahead_get {S : LS} {d : List LR} {wr : List (Nat × Nat)} (h : Is S d wr) (g : Gd d) {r : LR} (hr : r ∈ d) : mget S.ahead r.at_ = some r.pv := by
  rw [h.ahead]
  clear h
  induction g with
  | nil => cases hr
  | @snoc d r0 g f ih =>
    rw [List.map_append, List.reverse_append]
    show mget ((r0.at_, r0.pv) :: (d.map fun r => (r.at_, r.pv)).reverse) r.at_ = _
    unfold mget
    rw [List.find?_cons]
    rcases List.mem_append.1 hr with h | h
    · have : decide (r0.at_ = r.at_) = false := decide_eq_false fun e => f.a r h e.symm
      rw [this]
      exact ih h
    · rw [List.mem_singleton.1 h]
      simp
theorem Gd.rises {d : List LR} (g : Gd d) (c : UInt8) : ∀ (i j : Nat) (x y : LR), (rcs d c)[i]? = some x → (rcs d c)[j]? = some y → i < j → x.q < y.q := by
  induction g with
  | nil => intro i j x y h; simp [rcs] at h
  | @snoc d r0 g f ih =>
    intro i j x y hx hy hij
    rw [rcs_snoc] at hx hy
    by_cases hc : r0.c = c
    · rw [if_pos hc] at hx hy
      have hlt := (List.getElem?_eq_some_iff.1 hy).1
      rw [List.length_append, List.length_singleton] at hlt
      rw [List.getElem?_append_left (by omega)] at hx
      by_cases hj : j < (rcs d c).length
      · rw [List.getElem?_append_left hj] at hy
        exact ih i j x y hx hy hij
      · have : j = (rcs d c).length := by omega
        subst this
        rw [List.getElem?_append_right (Nat.le_refl _)] at hy
        simp at hy
        subst hy
        exact f.q x (rcs_mem (List.mem_of_getElem? hx)).1
    · rw [if_neg hc] at hx hy
      exact ih i j x y hx hy hij
theorem Gd.fit_q {d : List LR} (g : Gd d) : ∀ x ∈ d, 1 ≤ x.q := by
  induction g with
  | nil => intro x hx; cases hx
  | snoc g f ih =>
    intro x hx
    rcases List.mem_append.1 hx with h | h
    · exact ih x h
    · rw [List.mem_singleton.1 h]; exact f.q0
theorem mget_mem {α β : Type} [DecidableEq α] {D : List (α × β)} (hn : (D.map (·.1)).Nodup) {a : α} {c : β} (h : (a, c) ∈ D) : mget D a = some c := by
  cases hg : mget D a with
  | none => exact absurd h (mget_none hg)
  | some c' => rw [nodup_snd hn (mget_some hg) h]

end Go.Proofs.Ytnkkieiofpplgaa
