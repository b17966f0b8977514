/- Scans of the law's own segments, cut; of another id. Plain Lean, no condition. -/
import Derived.Test.YtfapipamohlniaaDoorScMc
namespace Go.Proofs.YtfapipamohlniaaDoor

/-- how many of the first i end at the cut or ahead of it, as the law counts them -/
def whX (l : List PlX) (k : Nat) : Nat → Nat
  | 0 => 0
  | i + 1 => if offX l (i + 1) ≤ k then i + 1 else whX l k i
theorem whX_le (l : List PlX) (k : Nat) : ∀ i, whX l k i ≤ i
  | 0 => Nat.le_refl _
  | i + 1 => by
    unfold whX
    split
    · exact Nat.le_refl _
    · have := whX_le l k i
      omega
theorem whX_off (l : List PlX) {k : Nat} (h : 16 ≤ k) : ∀ i, offX l (whX l k i) ≤ k
  | 0 => by unfold whX; rw [offX_zero]; exact h
  | i + 1 => by
    unfold whX
    split
    · assumption
    · exact whX_off l h i
theorem whX_next (l : List PlX) (k : Nat) : ∀ i, whX l k i < i → k < offX l (whX l k i + 1)
  | 0, h => absurd h (Nat.not_lt_zero _)
  | i + 1, h => by
    unfold whX at h ⊢
    split at h
    · omega
    · rename_i hc
      rw [if_neg hc]
      have := whX_le l k i
      rcases Nat.lt_or_ge (whX l k i) i with h1 | h1
      · exact whX_next l k i h1
      · rw [show whX l k i = i by omega]
        omega
theorem whX_small (l : List PlX) {k : Nat} (h : k < 16) : ∀ i, whX l k i = 0
  | 0 => rfl
  | i + 1 => by
    unfold whX
    have := (offX_le l (i + 1)).1
    rw [if_neg (by omega)]
    exact whX_small l h i
/-- the scan of the bytes cut at k -/
def cutX (l : List PlX) (m k : Nat) : Sc := if k < 16 then ⟨[], [], 0, 22⟩ else ⟨(List.range (whX l k m)).map (offX l), [], offX l (whX l k m), if k = offX l (whX l k m) then 0 else 22⟩
theorem filter_all2 {m j : Nat} (h : j ≤ m) : ((List.range j).filter fun i => decide (i ≠ m)) = List.range j := by
  rw [List.filter_eq_self]
  intro a ha
  rw [List.mem_range] at ha
  simp
  omega
theorem ofS_cut {l : List PlX} {m : Nat} (hm : m ≤ l.length) (h20 : m ≤ 20) (hf : ∀ x ∈ l, x.fits) {k : Nat} (hk : k ≤ offX l m) : ofS 7 ((segX l m).take k) = cutX l m k := by
  have hlen : ((segX l m).take k).length = k := by rw [List.length_take]; unfold offX at hk; omega
  unfold cutX
  by_cases h16 : k < 16
  · rw [if_pos h16]
    unfold ofS
    rw [chkH_cut (k := 1) (id := 7) (by rw [hlen]; exact h16), if_neg (by decide)]
  · rw [if_neg h16]
    have hj := whX_le l k m
    have ho := whX_off l (k := k) (by omega) m
    have hn := whX_next l k m
    generalize whX l k m = j at *
    have hdrop : ∀ i, i < m → ((segX l m).take k).drop (offX l i) = ((segX l m).drop (offX l i)).take (k - offX l i) := fun i _ => by rw [List.drop_take]
    have hL : Laid ((segX l m).take k) (prsX l m) m j := by
      refine ⟨by rw [prsX_len]; exact hj, prsX_may hm h20 hf, prsX_up hm, fun i hi hne => ?_, fun h => absurd h (by omega), by omega, ?_⟩
      · obtain ⟨r, hr⟩ := drop_segX (l := l) (m := m) (i := i) (by omega)
        have h1 := offX_mono l (j := j) (i := i + 1) (by omega)
        rw [offX_succ] at h1
        refine ⟨r.take (k - offX l i - (prX l i).run.length), ?_⟩
        rw [offX_P l (by omega), prsX_get l (by omega), hdrop i (by omega), hr, List.take_append, List.take_of_length_le (by rw [PR.run_len]; omega)]
      · rw [hlen, offX_P l hj]
        exact ho
    have hst : stT (prsX l m) m j = ⟨(List.range j).map (offX l), [], offX l j, 0⟩ := by
      unfold stT
      rw [if_neg (by omega), filter_all2 hj, offX_P l hj]
      congr 1
      refine List.map_congr_left fun i hi => ?_
      rw [List.mem_range] at hi
      exact offX_P l (by omega)
    have hc : chkH ((segX l m).take k) 1 7 = 0 := chkH_head (k := 1) (by decide) (by rw [List.take_take, Nat.min_eq_left (by omega)]; exact seg_head 7 (prsX l m))
    by_cases he : k = offX l j
    · have hen : (stT (prsX l m) m j).en = ((segX l m).take k).length := by rw [hst, hlen]; exact he.symm
      rw [hL.of hc (by rw [nextS_end hen]), nextS_end hen, hst, if_pos he]
    · have hjm : j < m := by
        rcases Nat.lt_or_ge j m with h | h
        · exact h
        · exfalso
          rw [show j = m by omega] at ho he
          omega
      have hlt := hn hjm
      rw [offX_succ] at hlt
      obtain ⟨r, hr⟩ := drop_segX (l := l) (m := m) (i := j) hjm
      have hmy := prX_may (l := l) (i := j) (by omega) (by omega) hf
      have hen : (stT (prsX l m) m j).en ≠ ((segX l m).take k).length := by rw [hst, hlen]; exact fun h => he h.symm
      have hbig := (offX_le l j).2
      have hle : (stT (prsX l m) m j).en ≤ 16777216 := by rw [hst]; dsimp only; omega
      have hd : ((segX l m).take k).drop (offX l j) = (prX l j).run.take (k - offX l j) := by
        rw [hdrop j hjm, hr, List.take_append_of_le_length (by rw [PR.run_len]; omega)]
      have ht : getS ((prX l j).run.take (k - offX l j)) = (0, 22) := by
        unfold PR.run
        unfold PR.may at hmy
        exact getS_torn hmy (by unfold PR.len at hlt; omega)
      have hnx := nextS_torn (b := (segX l m).take k) hen hle (by rw [hst]; dsimp only; rw [hd, ht])
      rw [hL.of hc (by rw [hnx]), hnx, hst, if_neg he]
theorem ofS_other {l : List PlX} {m o : Nat} (ho : o ≠ 7) : ofS o (segX l m) = ⟨[], [], 0, 23⟩ := by
  unfold ofS
  have := chkH_other (k := 1) (id := 7) (id' := o) (b := segX l m) (by decide) (seg_head 7 (prsX l m)) (Ne.symm ho)
  rw [show (1 : Int) = ((1 : Nat) : Int) from rfl, this, if_neg (by decide)]
end Go.Proofs.YtfapipamohlniaaDoor
