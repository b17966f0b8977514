/- Several texts in one: ScLayLaw, ScMoreLaw, Mid, ScLay. No condition of its own. -/
import Derived.Test.YtfapipamohlniaaDoorScMa
import Derived.Test.YtfapipamohlniaaDoorPlan
import Derived.Test.YtfapipamohlniaaDoorScMb
import Derived.Test.YtfapipamohlniaaDoorOpenB
namespace Go.Proofs.YtfapipamohlniaaDoor

/-- a record of the law's argument: how far its number is above the one ahead, its key's and its value's length, before they are brought -/
structure PlX where
  ab : Nat
  ke : Nat
  va : Nat
def PlX.fits (x : PlX) : Prop := x.ab < 256 ∧ x.ke < 256 ∧ x.va < 65536
/-- the number of the last of some records -/
def seqL (l : List PlX) : Nat := (l.map fun x => 1 + x.ab).sum
theorem seqL_snoc (l : List PlX) (x : PlX) : seqL (l ++ [x]) = seqL l + (1 + x.ab) := by unfold seqL; simp
theorem seqL_le {l : List PlX} (h : ∀ x ∈ l, x.fits) : seqL l ≤ 256 * l.length := by
  unfold seqL
  induction l with
  | nil => simp
  | cons x r ih =>
    have h1 := h x (by simp)
    have := ih fun y hy => h y (by simp [hy])
    unfold PlX.fits at h1
    simp only [List.map_cons, List.sum_cons, List.length_cons]
    omega
/-- record i, as it is laid -/
def prX (l : List PlX) (i : Nat) : PR := ⟨seqL (l.take (i + 1)), UInt8.ofNat i :: List.replicate ((l.getD i ⟨0, 0, 0⟩).ke % 64) 0, List.replicate ((l.getD i ⟨0, 0, 0⟩).va % 201) 0⟩
/-- the first m records -/
def prsX (l : List PlX) (m : Nat) : List PR := (List.range m).map (prX l)
theorem prsX_len (l : List PlX) (m : Nat) : (prsX l m).length = m := by unfold prsX; simp
theorem prsX_get (l : List PlX) {m i : Nat} (h : i < m) : (prsX l m)[i]'(by rw [prsX_len]; exact h) = prX l i := by unfold prsX; simp
theorem prsX_succ (l : List PlX) (m : Nat) : prsX l (m + 1) = prsX l m ++ [prX l m] := by unfold prsX; rw [List.range_succ, List.map_append]; simp
theorem prsX_take (l : List PlX) {k m : Nat} (h : k ≤ m) : (prsX l m).take k = prsX l k := by
  unfold prsX
  rw [← List.map_take, List.take_range, Nat.min_eq_left h]
theorem seqL_take {l : List PlX} {i : Nat} (h : i < l.length) : seqL (l.take (i + 1)) = seqL (l.take i) + (1 + (l[i]).ab) := by
  rw [List.take_succ_eq_append_getElem h, seqL_snoc]
theorem seqL_up {l : List PlX} : ∀ {j i : Nat}, i < j → j ≤ l.length → seqL (l.take i) < seqL (l.take j)
  | 0, i, h, _ => by omega
  | j + 1, i, h, hj => by
    rw [seqL_take (by omega)]
    rcases Nat.lt_or_ge i j with h1 | h1
    · have := seqL_up (l := l) (j := j) (i := i) h1 (by omega)
      omega
    · obtain rfl : i = j := by omega
      omega
theorem prX_may {l : List PlX} {i : Nat} (hi : i < l.length) (h20 : i < 20) (h : ∀ x ∈ l, x.fits) : (prX l i).may := by
  have h1 : seqL (l.take (i + 1)) ≤ 256 * (l.take (i + 1)).length := seqL_le fun x hx => h x (List.mem_of_mem_take hx)
  rw [List.length_take, Nat.min_eq_left hi] at h1
  have h2 := seqL_take hi
  unfold PR.may prX
  simp only [List.length_cons, List.length_replicate]
  have hk := Nat.mod_lt (l.getD i ⟨0, 0, 0⟩).ke (show 0 < 64 by omega)
  have hv := Nat.mod_lt (l.getD i ⟨0, 0, 0⟩).va (show 0 < 201 by omega)
  generalize (l.getD i ⟨0, 0, 0⟩).ke % 64 = a at *
  generalize (l.getD i ⟨0, 0, 0⟩).va % 201 = b at *
  generalize seqL (l.take (i + 1)) = q at *
  unfold mayR kindR seqR mayB mayV mayL noneB standsB
  simp only [Bool.and_eq_true, Bool.or_eq_true, decide_eq_true_eq]
  refine ⟨.inl (by simp), ⟨by omega, by omega⟩, ⟨by omega, by omega⟩, by omega, .inl ?_⟩
  simp
theorem prsX_may {l : List PlX} {m : Nat} (hm : m ≤ l.length) (h20 : m ≤ 20) (h : ∀ x ∈ l, x.fits) : ∀ x ∈ prsX l m, x.may := by
  intro x hx
  obtain ⟨i, hi, rfl⟩ := List.mem_map.1 hx
  rw [List.mem_range] at hi
  exact prX_may (by omega) (by omega) h
theorem prsX_up {l : List PlX} {m : Nat} (hm : m ≤ l.length) : ((prsX l m).map PR.q).Pairwise (· < ·) := by
  rw [List.pairwise_iff_getElem]
  intro i j hi hj hij
  simp only [List.length_map, prsX_len] at hi hj
  simp only [List.getElem_map, prsX_get l hi, prsX_get l hj]
  exact seqL_up (by omega) (by omega)
theorem segP_snoc (id : Nat) (l : List PR) (x : PR) : segP id (l ++ [x]) = segP id l ++ x.run := by unfold segP runsP; rw [List.flatMap_append, ← List.append_assoc]; simp
theorem segP_nil (id : Nat) : segP id [] = headB 1 id := by unfold segP runsP; simp
/-- the bytes of the first m -/
def segX (l : List PlX) (m : Nat) : List UInt8 := segP 7 (prsX l m)
theorem segX_succ (l : List PlX) (m : Nat) : segX l (m + 1) = segX l m ++ (prX l m).run := by unfold segX; rw [prsX_succ, segP_snoc]
theorem segX_zero (l : List PlX) : segX l 0 = headB 1 7 := by unfold segX; rw [show prsX l 0 = [] from rfl, segP_nil]
/-- where record i begins -/
def offX (l : List PlX) (i : Nat) : Nat := (segX l i).length
theorem offX_zero (l : List PlX) : offX l 0 = 16 := by unfold offX; rw [segX_zero, headB_len]
theorem offX_succ (l : List PlX) (i : Nat) : offX l (i + 1) = offX l i + (prX l i).len := by unfold offX; rw [segX_succ, List.length_append, PR.run_len]
theorem offX_P (l : List PlX) {i m : Nat} (h : i ≤ m) : offP (prsX l m) i = offX l i := by
  unfold offX segX
  rw [segP_len, prsX_len]
  unfold offP
  rw [prsX_take l h, prsX_take l (Nat.le_refl _)]
theorem prX_len (l : List PlX) (i : Nat) : 26 ≤ (prX l i).len ∧ (prX l i).len ≤ 289 := by
  unfold PR.len prX
  simp only [List.length_cons, List.length_replicate]
  have hk := Nat.mod_lt (l.getD i ⟨0, 0, 0⟩).ke (show 0 < 64 by omega)
  have hv := Nat.mod_lt (l.getD i ⟨0, 0, 0⟩).va (show 0 < 201 by omega)
  omega
theorem offX_le (l : List PlX) : ∀ i, 16 + 26 * i ≤ offX l i ∧ offX l i ≤ 16 + 289 * i
  | 0 => by rw [offX_zero]; omega
  | i + 1 => by
    have h1 := offX_le l i
    have h2 := prX_len l i
    rw [offX_succ]
    omega
theorem offX_mono (l : List PlX) : ∀ {j i : Nat}, i ≤ j → offX l i ≤ offX l j
  | 0, i, h => by rw [show i = 0 by omega]; exact Nat.le_refl _
  | j + 1, i, h => by
    rcases Nat.lt_or_ge i (j + 1) with h1 | h1
    · have := offX_mono l (j := j) (i := i) (by omega)
      rw [offX_succ]
      omega
    · rw [show i = j + 1 by omega]; exact Nat.le_refl _
theorem segX_take (l : List PlX) {k m : Nat} (h : k ≤ m) : (segX l m).take (offX l k) = segX l k := by
  have : ∀ d, (segX l (k + d)).take (offX l k) = segX l k := by
    intro d
    induction d with
    | zero => unfold offX; exact List.take_length
    | succ d ih =>
      rw [← Nat.add_assoc, segX_succ, List.take_append_of_le_length (offX_mono l (by omega))]
      exact ih
  have h2 := this (m - k)
  rwa [show k + (m - k) = m by omega] at h2
/-- the places' cells -/
def plRow (l : List PlX) (i : Nat) : List Go.Value := [.int .i64 (offX l i : Int), .int .i64 (offX l (i + 1) : Int), .int .u64 (seqL (l.take (i + 1)) : Int)]
def plCells (l : List PlX) (m : Nat) : List Go.Value := (List.range m).flatMap (plRow l)
theorem plCells_succ (l : List PlX) (m : Nat) : plCells l (m + 1) = plCells l m ++ plRow l m := by unfold plCells; rw [List.range_succ, List.flatMap_append]; simp
theorem plCells_get (l : List PlX) {m i j : Nat} (hi : i < m) (hj : j < 3) : (plCells l m)[i * 3 + j]? = (plRow l i)[j]? := by
  have : ∀ m, i < m → (plCells l m).length = m * 3 ∧ (plCells l m)[i * 3 + j]? = (plRow l i)[j]? := by
    have hlen : ∀ m, (plCells l m).length = m * 3 := by
      intro m
      induction m with
      | zero => rfl
      | succ m ih => rw [plCells_succ, List.length_append, ih]; simp [plRow]; omega
    intro m hm
    refine ⟨hlen m, ?_⟩
    induction m with
    | zero => omega
    | succ m ih =>
      rw [plCells_succ]
      rcases Nat.lt_or_ge i m with h | h
      · rw [List.getElem?_append_left (by rw [hlen]; omega), ih h]
      · obtain rfl : i = m := by omega
        rw [List.getElem?_append_right (by rw [hlen]; omega), hlen]
        congr 1
        omega
  exact (this m hi).2
theorem plCells_len (l : List PlX) : ∀ m, (plCells l m).length = m * 3
  | 0 => rfl
  | m + 1 => by rw [plCells_succ, List.length_append, plCells_len l m]; simp [plRow]; omega
end Go.Proofs.YtfapipamohlniaaDoor

namespace Go.Proofs.YtfapipamohlniaaDoor

theorem laid_segX {l : List PlX} {m : Nat} (hm : m ≤ l.length) (h20 : m ≤ 20) (hf : ∀ x ∈ l, x.fits) : Laid (segX l m) (prsX l m) m m where
  le := by rw [prsX_len]; exact Nat.le_refl _
  may := prsX_may hm h20 hf
  up := prsX_up hm
  at_ := fun i hi _ => by
    have h := seg_drop 7 (l := prsX l m) (i := i) (by rw [prsX_len]; exact hi) []
    rw [List.append_nil] at h
    exact ⟨_, h⟩
  bad := fun h => absurd h (Nat.lt_irrefl _)
  small := by omega
  len := by
    unfold segX
    rw [segP_len, prsX_len]
    exact Nat.le_refl _
theorem filter_all (m : Nat) : ((List.range m).filter fun j => decide (j ≠ m)) = List.range m := by
  rw [List.filter_eq_self]
  intro a ha
  rw [List.mem_range] at ha
  simp
  omega
theorem stT_segX (l : List PlX) (m : Nat) : stT (prsX l m) m m = ⟨(List.range m).map (offX l), [], offX l m, 0⟩ := by
  unfold stT
  rw [if_neg (Nat.lt_irrefl _), filter_all, offX_P l (Nat.le_refl _)]
  congr 1
  refine List.map_congr_left fun i hi => ?_
  rw [List.mem_range] at hi
  exact offX_P l (Nat.le_of_lt hi)
theorem chkH_segX (l : List PlX) (m : Nat) : chkH (segX l m) 1 7 = 0 := chkH_head (k := 1) (by decide) (seg_head 7 (prsX l m))
/-- the scan of the first m -/
def scX (l : List PlX) (m : Nat) : Sc := ⟨(List.range m).map (offX l), [], offX l m, 0⟩
theorem ofS_segX {l : List PlX} {m : Nat} (hm : m ≤ l.length) (h20 : m ≤ 20) (hf : ∀ x ∈ l, x.fits) : ofS 7 (segX l m) = scX l m := by
  have h := laid_segX hm h20 hf
  have he : (stT (prsX l m) m m).en = (segX l m).length := by rw [stT_segX]; rfl
  rw [h.of (chkH_segX l m) (by rw [nextS_end he]), nextS_end he, stT_segX]
  rfl
theorem seq_segX {l : List PlX} {m i : Nat} (hm : m ≤ l.length) (h20 : m ≤ 20) (hf : ∀ x ∈ l, x.fits) (hi : i < m) : numH ((segX l m).drop (offX l i)) 3 = seqL (l.take (i + 1)) := by
  have h := (laid_segX hm h20 hf).seq hi (by omega)
  rw [offX_P l (Nat.le_of_lt hi), prsX_get l hi] at h
  exact h.1
theorem drop_segX {l : List PlX} {m i : Nat} (hi : i < m) : ∃ r, (segX l m).drop (offX l i) = (prX l i).run ++ r := by
  have h := seg_drop 7 (l := prsX l m) (i := i) (by rw [prsX_len]; exact hi) []
  rw [List.append_nil, offX_P l (Nat.le_of_lt hi), prsX_get l hi] at h
  exact ⟨_, h⟩
/-- what a record reads as does not hang on what stands behind it -/
theorem told_segX {l : List PlX} {m i : Nat} (hm : m ≤ l.length) (h20 : m ≤ 20) (hf : ∀ x ∈ l, x.fits) (hi : i < m) :
    keyG ((segX l m).drop (offX l i)) = (prX l i).a ∧ valG ((segX l m).drop (offX l i)) = (prX l i).b ∧ numH ((segX l m).drop (offX l i)) 0 = 1 ∧ numH ((segX l m).drop (offX l i)) 1 = (prX l i).a.length ∧
    numH ((segX l m).drop (offX l i)) 2 = (prX l i).b.length ∧ numH ((segX l m).drop (offX l i)) 4 = 0 ∧ numH ((segX l m).drop (offX l i)) 5 = 0 ∧ (getS ((segX l m).drop (offX l i))).1 = (prX l i).len := by
  obtain ⟨r, hr⟩ := drop_segX (l := l) hi
  have hmy := prX_may (l := l) (i := i) (by omega) (by omega) hf
  rw [hr]
  unfold PR.run PR.len PR.may at *
  obtain ⟨t1, t2, t3, t4, t5, t6, t7, t8⟩ := told_run hmy r
  exact ⟨t1, t2, t3, t4, t5, t7, t8, by rw [getS_run hmy r]⟩
theorem seqL_nil : seqL [] = 0 := rfl
theorem lastQ_segX {l : List PlX} {m : Nat} (hm : m ≤ l.length) (h20 : m ≤ 20) (hf : ∀ x ∈ l, x.fits) : lastQ (segX l m) ((List.range m).map (offX l)) = seqL (l.take m) := by
  cases m with
  | zero => rfl
  | succ m =>
    rw [List.range_succ, List.map_append, List.map_cons, List.map_nil, lastQ_snoc]
    exact seq_segX hm h20 hf (Nat.lt_succ_self m)
def firstX (l : List PlX) (m : Nat) : Nat := if m = 0 then 0 else seqL (l.take 1)
theorem sealS_segX {l : List PlX} {m : Nat} (hm : m ≤ l.length) (h20 : m ≤ 20) (hf : ∀ x ∈ l, x.fits) : sealS (segX l m) 7 (scX l m) = ⟨7, offX l m, m, firstX l m, seqL (l.take m)⟩ := by
  unfold sealS scX
  simp only [List.length_map, List.length_range, List.length_nil, Nat.add_zero, lastQ_segX hm h20 hf]
  congr 1
  unfold firstX
  cases m with
  | zero => rfl
  | succ m =>
    rw [if_neg (by omega), List.range_succ_eq_map, List.map_cons]
    exact seq_segX hm h20 hf (by omega)
theorem hasP_nil (a o : Nat) : hasP [] a o = false := rfl
/-- nothing passed over: at most the end is lost -/
theorem lostGo_nil (b : List UInt8) (en : Nat) (ends : Bool) (last : Nat) : ∀ (L : List Nat) (fr a : Nat), lostGo b [] en ends last fr a L = if ends && decide ((match L.getLast? with | none => fr | some o => numH (b.drop o) 3 + 1) ≤ last) then [((match L.getLast? with | none => fr | some o => numH (b.drop o) 3 + 1), last)] else []
  | [], fr, a => by unfold lostGo; rw [hasP_nil, Bool.or_false]; rfl
  | o :: r, fr, a => by
    unfold lostGo
    rw [hasP_nil, Bool.false_and, if_neg (by simp), List.nil_append, lostGo_nil b en ends last r]
    cases r with
    | nil => rfl
    | cons x r =>
      rw [List.getLast?_cons_cons]
      obtain ⟨y, hy⟩ : ∃ y, (x :: r).getLast? = some y := ⟨_, List.getLast?_cons⟩
      rw [hy]
theorem last_rangeX {l : List PlX} {k : Nat} (hk : k ≤ l.length) (h20 : k ≤ 20) (hf : ∀ x ∈ l, x.fits) (fr : Nat) : (match ((List.range k).map (offX l)).getLast? with | none => fr | some o => numH ((segX l k).drop o) 3 + 1) = if k = 0 then fr else seqL (l.take k) + 1 := by
  cases k with
  | zero => rfl
  | succ k =>
    rw [List.range_succ, List.map_append, List.map_cons, List.map_nil, List.getLast?_concat, if_neg (by omega)]
    dsimp only
    rw [seq_segX hk h20 hf (Nat.lt_succ_self k)]
/-- by the seal of more records the rest may be lost -/
theorem lostS_segX {l : List PlX} {k m : Nat} (hkm : k ≤ m) (hm : m ≤ l.length) (h20 : m ≤ 20) (hf : ∀ x ∈ l, x.fits) :
    lostS (segX l k) 7 (scX l k) ⟨7, offX l m, m, firstX l m, seqL (l.take m)⟩ = if k = m then [] else [(if k = 0 then firstX l m else seqL (l.take k) + 1, seqL (l.take m))] := by
  unfold lostS
  dsimp only
  by_cases h0 : m = 0
  · rw [if_pos h0, if_pos (by omega)]
  rw [if_neg h0]
  have hle : seqL (l.take k) ≤ seqL (l.take m) := by
    rcases Nat.lt_or_ge k m with h | h
    · exact Nat.le_of_lt (seqL_up h hm)
    · rw [show k = m by omega]; exact Nat.le_refl _
  have hfirst : k ≠ 0 → firstX l k = firstX l m := fun h => by unfold firstX; rw [if_neg h, if_neg h0]
  have hs : strangeS (segX l k) 7 (scX l k) ⟨7, offX l m, m, firstX l m, seqL (l.take m)⟩ = false := by
    unfold strangeS
    rw [sealS_segX (by omega) (by omega) hf]
    dsimp only
    by_cases hk0 : k = 0
    · subst hk0
      simp [scX]
    · rw [hfirst hk0]
      rw [decide_eq_false (p := seqL (l.take m) < seqL (l.take k)) (by omega)]
      simp
  rw [hs, if_neg (by simp)]
  have hends : endsS (segX l k) 7 (scX l k) ⟨7, offX l m, m, firstX l m, seqL (l.take m)⟩ = decide (k ≠ m) := by
    unfold endsS
    rw [sealS_segX (by omega) (by omega) hf]
    dsimp only
    by_cases hk : k = m
    · subst hk; simp [scX]
    · simp [scX, hk]
  rw [hends]
  unfold scX
  dsimp only
  rw [lostGo_nil, last_rangeX (by omega) (by omega) hf]
  by_cases hk : k = m
  · subst hk; simp
  · rw [if_neg hk]
    have hlt : k < m := by omega
    have : (if k = 0 then firstX l m else seqL (l.take k) + 1) ≤ seqL (l.take m) := by
      split
      · unfold firstX
        rw [if_neg h0]
        rcases Nat.lt_or_ge 1 m with h | h
        · exact Nat.le_of_lt (seqL_up h hm)
        · rw [show m = 1 by omega]; exact Nat.le_refl _
      · have := seqL_up hlt hm
        omega
    rw [if_pos (by simp [hk, this])]
theorem getElem_rangeX (l : List PlX) {m i : Nat} (hi : i < m) : ((List.range m).map (offX l))[i]? = some (offX l i) := by simp [hi]
end Go.Proofs.YtfapipamohlniaaDoor

namespace Go.Proofs.YtfapipamohlniaaDoor
open Go.RowKit
section
variable {P : Program} {w : World}
/-- the cells cs lie in block b from o on -/
def At (w : World) (b o : Nat) (cs : List Value) : Prop := ∀ j v, cs[j]? = some v → w.cell? ⟨b, o + j, none⟩ = some v
theorem At.after {b o : Nat} {cs : List Value} (h : At w b o cs) (hl : b < w.heap.size) {w' : World} (hb : Below w.heap.size w w') : At w' b o cs := fun j v hv => (hb.cell (p := ⟨b, o + j, none⟩) hl).trans (h j v hv)
theorem exec_load_mid {ρ : Operand → Value} {o : Oper} {t : TypeId} {x : Operand} {b off : Nat} {cs : List Value} {d : TypeDesc} (ho : o.op = .load t x) (hx : ρ x = .pointer (some ⟨b, off, none⟩)) (hc : At w b off cs)
    (hu : P.underlying t = some d) (hd : (match d with | .struct _ | .array _ _ => true | _ => false) = true) (hi : (P.info? t).map (·.size) = some cs.length) : (execOp ρ o).run P w = .ok (.value (.agg cs.toArray)) w := by
  have hl : (loadCells ⟨b, off, none⟩ cs.length).run P w = .ok cs.toArray w := run_loadCells_list (P := P) w ⟨b, off, none⟩ cs (fun j v hv => by rw [add_none]; exact hc j v hv)
  obtain ⟨i, hi1, hi2⟩ : ∃ i, P.info? t = some i ∧ i.size = cs.length := by
    cases hc : P.info? t with
    | none => rw [hc] at hi; cases hi
    | some i => rw [hc] at hi; exact ⟨i, rfl, by simpa using hi⟩
  have hs : (sizeOf t).run P w = .ok cs.length w := by
    have := run_sizeOf w hi1
    rw [this]
    congr 1
    simp [Program.cellsOf, hi1, hi2]
  have ha : (isAgg t).run P w = .ok true w := by
    unfold isAgg
    rw [Sem.run_bind, run_underlying hu]
    cases d <;> first | rfl | exact absurd hd (by simp)
  unfold execOp
  rw [ho]
  simp only [hx, Instr.loadAt, Instr.sureAddr, Sem.run_bind, Sem.run_pure, Result.andThen_ok, loadVar, ha, if_true, hs, hl]
end
end Go.Proofs.YtfapipamohlniaaDoor

namespace Go.Proofs.YtfapipamohlniaaDoor
open Go.ChangeShapes Go.WideShapes Go.ChangeAt Go.RowKit

theorem made_bytes (n : Nat) : (madeCells #[.int .u8 0] n).toList = bcells (List.replicate n 0) := by
  rw [madeCells_one]
  unfold bcells
  simp
def PlX.cells (x : PlX) : List Value := [.int .u8 (x.ab : Int), .int .u8 (x.ke : Int), .int .u16 (x.va : Int)]
theorem PlX.cells_len (x : PlX) : x.cells.length = 3 := rfl
theorem plain_get (l : List PlX) {i j : Nat} (hi : i < l.length) (hj : j < 3) : (l.flatMap PlX.cells)[i * 3 + j]? = (l[i]).cells[j]? := by
  rw [flatMap_get PlX.cells 3 PlX.cells_len l i j hj]
  simp [hi]
section
variable {H : Type} {enc : TypeId × Value → H} {P : Program} {w : World} {base : Nat} {spare : Nat → Bool} {held : Bool}
theorem rd_plains {u t : TypeId} {f0 f1 f2 : Field} (hu : P.underlying u = some (.slice t))
    (ht : P.underlying t = some (.struct #[f0, f1, f2])) (hC : P.cellsOf t = 3) (o0 : f0.offset = 0) (o1 : f1.offset = 1) (o2 : f2.offset = 2)
    (k0 : P.cellsOf f0.type = 1) (k1 : P.cellsOf f1.type = 1) (k2 : P.cellsOf f2.type = 1)
    (h0 : P.underlying f0.type = some (.int .u8)) (h1 : P.underlying f1.type = some (.int .u8)) (h2 : P.underlying f2.type = some (.int .u16))
    {A : Option Addr} {n c : Nat} {D : DataW H} {p : List MemPlace} (h : DataW.Trod enc P w base spare held u (.slice A n c) D p) :
    ∃ l : List PlX, l.length = n ∧ Rd w w.heap.size 3 A n (l.flatMap PlX.cells) ∧ n ≤ c ∧ ∀ x ∈ l, x.fits := by
  obtain ⟨l, r1, r2, r3, _, r5⟩ := rd_slice_map PlX.cells PlX.fits (by omega : 0 < 3) hu hC (fun cs fuel y _ hy => by
    obtain ⟨xs, m1, _, hx, hlen, hxl, hfld⟩ := DataW.trod_struct ht hy
    rw [hC] at hlen
    obtain ⟨v0, v1, v2, rfl⟩ : ∃ v0 v1 v2, cs = [v0, v1, v2] := by
      match cs, hlen with
      | [a, b, c], _ => exact ⟨a, b, c, rfl⟩
    obtain ⟨y0, y1, y2, rfl⟩ : ∃ y0 y1 y2, xs = [y0, y1, y2] := by
      match xs, hxl with
      | [a, b, c], _ => exact ⟨a, b, c, rfl⟩
    have r0 := hfld 0 f0 rfl
    have r1 := hfld 1 f1 rfl
    have r2 := hfld 2 f2 rfl
    rw [o0, k0] at r0
    rw [o1, k1] at r1
    rw [o2, k2] at r2
    obtain ⟨a, e0, _, w0⟩ := DataW.trod_int h0 (show DataW.trod enc P w base spare held m1 f0.type [v0] = some y0 from r0)
    obtain ⟨b, e1, _, w1⟩ := DataW.trod_int h1 (show DataW.trod enc P w base spare held m1 f1.type [v1] = some y1 from r1)
    obtain ⟨c, e2, _, w2⟩ := DataW.trod_int h2 (show DataW.trod enc P w base spare held m1 f2.type [v2] = some y2 from r2)
    simp only [List.cons.injEq, and_true] at e0 e1 e2
    subst e0; subst e1; subst e2
    have b0 : 0 ≤ a ∧ a < 256 := by simp [Lit.wf, IntKind.min, IntKind.max, IntKind.signed, IntKind.bits] at w0; omega
    have b1 : 0 ≤ b ∧ b < 256 := by simp [Lit.wf, IntKind.min, IntKind.max, IntKind.signed, IntKind.bits] at w1; omega
    have b2 : 0 ≤ c ∧ c < 65536 := by simp [Lit.wf, IntKind.min, IntKind.max, IntKind.signed, IntKind.bits] at w2; omega
    refine ⟨⟨a.toNat, b.toNat, c.toNat⟩, ?_, ?_⟩
    · unfold PlX.cells
      simp only [Int.toNat_of_nonneg b0.1, Int.toNat_of_nonneg b1.1, Int.toNat_of_nonneg b2.1]
    · unfold PlX.fits
      dsimp only
      omega) h
  exact ⟨l, r1, r2, r3, r5⟩
end
theorem Tryd.infoPlaced : (Tryd.prog.info? 48).map (fun i => (i.zero, i.size, i.bytes)) = some (some (.agg #[.int .i64 0, .int .i64 0, .int .u64 0]), 3, 24) := by kernel_rfl
theorem eltPlaced : Elt Tryd.prog 26 48 (.agg #[.int .i64 0, .int .i64 0, .int .u64 0]) 3 24 := ⟨Tryd.underlying26, Tryd.infoPlaced, rfl, by omega⟩
def RetLays (l : List PlX) (m : Nat) (w : World) (e : Ending) (w' : World) : Prop := ∃ v u, e = .returned (.tuple #[v, u]) ∧ Ow w' w.heap.size 5 1 v (offX l m) (bcells (segX l m)) ∧ Ow w' w.heap.size 48 3 u m (plCells l m) ∧ Below w.heap.size w w'
/-- behind the record's making -/
def RLay (_w wr : World) (q nk nv : Nat) (v9 : Value) (wx : World) : Prop := ∃ gR gK gV, v9 = .pointer (some ⟨gR, 0, none⟩) ∧ Blk wx gR 44 #[.int .u64 (q : Int), .int .i64 1, .slice (some ⟨gK, 0, none⟩) nk nk, .slice (some ⟨gV, 0, none⟩) nv nv, .int .u32 0, .int .u32 0] ∧ Blk wx gK 5 (madeCells #[.int .u8 0] nk) ∧ Blk wx gV 5 (madeCells #[.int .u8 0] nv) ∧ gK ≠ gV ∧ wr.heap.size ≤ gK ∧ wr.heap.size ≤ gV ∧ wr.heap.size ≤ gR ∧ gK ≠ gR ∧ Below wr.heap.size wr wx

set_option maxRecDepth 100000 in
set_option maxHeartbeats 4000000 in
theorem lays_any (l : List PlX) (A : Option Addr) (n c : Nat) (w : World) (hl : l.length = n) (hf : ∀ x ∈ l, x.fits) (h : Rd w w.heap.size 3 A n (l.flatMap PlX.cells)) :
    Calls Tryd.prog 8 #[.slice A n c] w (RetLays l (min n 20) w) := by
  have H := Lib.hid (rputH_any 1 7 (by decide) w)
  rw [show headP 1 7 = segX l 0 by rw [segX_zero]; rfl, show (if mayH 1 7 = true then 0 else 1) = 0 by rfl] at H
  obtain ⟨m, hm⟩ : ∃ m, m = min n 20 := ⟨_, rfl⟩
  rw [← hm]
  have hmn : m ≤ n := by omega
  have hm20 : m ≤ 20 := by omega
  have hmc : m < n → m = 20 := by omega
  clear hm
  have HL := Lib.hid hl
  have HF := Lib.hid hf
  have HMC := Lib.hid hmc
  clear hl hf hmc
  go_enter Tryd.func8, Tryd.ntmps8
  go_wp2_with fail
  refine H.out.mono ?_
  rintro e w1 ⟨v1, rfl, o1, b1⟩
  clear H
  have O1 : Hid (Ow w1 w.heap.size 5 1 v1 (segX l 0).length (bcells (segX l 0))) := Lib.hid o1
  have B1 := Lib.hid b1
  clear o1 b1
  go_wp2_with fail
  go_loopw [4, 6, 7, 8] (fun v u sq i wr => ∃ k : Nat, k ≤ m ∧ i = .int .i64 (k : Int) ∧ sq = .int .u64 (seqL (l.take k) : Int) ∧ Ow wr w.heap.size 5 1 v (offX l k) (bcells (segX l k)) ∧ Ow wr w.heap.size 48 3 u k (plCells l k) ∧ Below w.heap.size w wr) (fun _ _ _ i _ => m - (intOf i).toNat)
  case atStart => exact ⟨0, Nat.zero_le _, rfl, rfl, O1.out, World.ownsRow_nil _ _ _ _, B1.out⟩
  case round =>
    obtain ⟨k, hk, rfl, rfl, ho, hu, hb⟩ := hrel
    obtain ⟨A3, c3, rfl⟩ := own_slice ho
    obtain ⟨A4, c4, rfl⟩ := own_slice hu
    by_cases hlt : k < m
    · have i1 : (k : Int) < (n : Int) := by omega
      have i2 : (k : Int) < 20 := by omega
      have hkl : k < l.length := by have := HL.out; omega
      obtain ⟨bk, off, rfl, hblk, hcell⟩ := h.2.2 (by omega)
      have hfx := HF.out _ (List.getElem_mem hkl)
      have hsq := seqL_take hkl
      have hsl := seqL_le (l := l.take k) fun x hx => HF.out x (List.mem_of_mem_take hx)
      rw [List.length_take, Nat.min_eq_left (by omega)] at hsl
      have ck : ∀ W, Below w.heap.size w W → W.cell? ⟨bk, off + k * 3, none⟩ = some (.int .u8 ((l[k]).ab : Int)) ∧ W.cell? ⟨bk, off + k * 3 + 1, none⟩ = some (.int .u8 ((l[k]).ke : Int)) ∧ W.cell? ⟨bk, off + k * 3 + 2, none⟩ = some (.int .u16 ((l[k]).va : Int)) := fun W hW =>
        ⟨(hW.cell (p := ⟨bk, _, none⟩) hblk).trans (hcell (k * 3) _ (by have := plain_get l hkl (j := 0) (by omega); rw [Nat.add_zero] at this; rw [this]; rfl)), (hW.cell (p := ⟨bk, _, none⟩) hblk).trans (by rw [Nat.add_assoc]; exact hcell _ _ (by rw [plain_get l hkl (by omega)]; rfl)), (hW.cell (p := ⟨bk, _, none⟩) hblk).trans (by rw [Nat.add_assoc]; exact hcell _ _ (by rw [plain_get l hkl (by omega)]; rfl))⟩
      have hp : prX l k = ⟨seqL (l.take (k + 1)), UInt8.ofNat k :: List.replicate ((l[k]).ke % 64) 0, List.replicate ((l[k]).va % 201) 0⟩ := by
        unfold prX
        rw [List.getD_eq_getElem?_getD, List.getElem?_eq_getElem hkl]
        rfl
      have hmy := prX_may hkl (by omega) HF.out
      have hsg := segX_succ l k
      have hof := offX_succ l k
      have hole := (offX_le l k).2
      have hplc := plCells_succ l k
      unfold plRow at hplc
      unfold PR.run at hsg
      unfold PR.len at hof
      unfold PR.may at hmy
      unfold PlX.fits at hfx
      rw [hp] at hmy hsg hof
      dsimp only at hmy hsg hof
      generalize (l[k]).ab = a at *
      generalize (l[k]).ke = ke at *
      generalize (l[k]).va = va at *
      obtain ⟨q, hq⟩ : ∃ q, q = seqL (l.take (k + 1)) := ⟨_, rfl⟩
      obtain ⟨q0, hq0⟩ : ∃ q, q = seqL (l.take k) := ⟨_, rfl⟩
      rw [← hq] at hmy hsg hsq hplc
      rw [← hq0] at hsq hsl ⊢
      have HQ := Lib.hid hq
      have HQ0 := Lib.hid hq0
      clear hq hq0 hp hcell
      obtain ⟨nk, hnk⟩ : ∃ nk, nk = 1 + ke % 64 := ⟨_, rfl⟩
      obtain ⟨nv, hnv⟩ : ∃ nv, nv = va % 201 := ⟨_, rfl⟩
      have hnk1 : 1 ≤ nk ∧ nk ≤ 64 := by omega
      have hnv1 : nv ≤ 200 := by omega
      have ek : (1 : Int) + (ke : Int) % 64 = (nk : Int) := by omega
      have ev : (va : Int) % 201 = (nv : Int) := by omega
      have eq : (q0 : Int) + (1 + (a : Int)) = (q : Int) := by omega
      have hke : List.replicate (ke % 64) (0 : UInt8) = (List.replicate nk 0).tail := by rw [hnk, List.tail_replicate]; congr 1; omega
      have hkl2 : (UInt8.ofNat k :: List.replicate (ke % 64) (0 : UInt8)).length = nk := by simp; omega
      rw [← hnv] at hmy hsg hof
      rw [hkl2, List.length_replicate] at hmy hof
      have hset : (madeCells #[.int .u8 0] nk).setIfInBounds 0 (.int .u8 (k : Int)) = (bcells (UInt8.ofNat k :: List.replicate (ke % 64) 0)).toArray := by
        apply Array.toList_inj.1
        rw [Array.toList_setIfInBounds, made_bytes, hnk, Nat.add_comm, List.replicate_succ]
        unfold bcells
        simp only [List.map_cons, List.set_cons_zero, UInt8.toNat_ofNat']
        rw [Nat.mod_eq_of_lt (by omega : k < 2 ^ 8)]
      generalize UInt8.ofNat k :: List.replicate (ke % 64) (0 : UInt8) = KK at *
      have c0 := (ck wr hb).1
      have HCK := Lib.hid ck
      have HMY := Lib.hid hmy
      have HSG := Lib.hid hsg
      have HOF := Lib.hid hof
      have HPL := Lib.hid hplc
      have HSET := Lib.hid hset
      have HKL := Lib.hid hkl2
      have HSQ := Lib.hid hsq
      have HO : Hid (Ow _ _ _ _ _ _ _) := Lib.hid ho
      have HU : Hid (Ow _ _ _ _ _ _ _) := Lib.hid hu
      have HB := Lib.hid hb
      have hqb : q0 + (1 + a) < 18446744073709551616 := by omega
      have HNK := Lib.hid hnk
      clear ck hmy hsg hof hplc hset hkl2 hsq ho hu hb hke hnk hnv
      go_upto_region 8 with (fail)

      have hm_nk : ∀ W : World, (Instr.makeSlice 25 (.int .u8 (nk : Int)) (.int .u8 (nk : Int))).run Tryd.prog W = .ok (.slice (some ⟨W.heap.size, 0, none⟩) nk nk) (W.alloc (.cells (madeCells #[.int .u8 0] nk) 5)) := fun W => by
        have := run_make_rowN (P := Tryd.prog) 25 5 ((Tryd.prog.info? 5).get!) (.int .u8 0) Tryd.underlying25 (by kernel_rfl) (by kernel_rfl) .u8 .u8 nk nk (Nat.le_refl _) (by show 1 * _ ≤ _; omega) (by omega) W
        rw [show nk * ((Tryd.prog.info? 5).get!).size = nk by show nk * 1 = nk; omega] at this
        exact this
      have hm_nv : ∀ W : World, (Instr.makeSlice 25 (.int .u16 (nv : Int)) (.int .u16 (nv : Int))).run Tryd.prog W = .ok (.slice (some ⟨W.heap.size, 0, none⟩) nv nv) (W.alloc (.cells (madeCells #[.int .u8 0] nv) 5)) := fun W => by
        have := run_make_rowN (P := Tryd.prog) 25 5 ((Tryd.prog.info? 5).get!) (.int .u8 0) Tryd.underlying25 (by kernel_rfl) (by kernel_rfl) .u16 .u16 nv nv (Nat.le_refl _) (by show 1 * _ ≤ _; omega) (by omega) W
        rw [show nv * ((Tryd.prog.info? 5).get!).size = nv by show nv * 1 = nv; omega] at this
        exact this
      go_cut [9] from 35 to 51 (fun v9 wx => RLay w wr q nk nv v9 wx)
      case first =>
        have hc0 := Below.drew_ wr
        refine wp_region_tree (fun W => Below wr.heap.size wr W) (row [.calms [0, 1, 2, 3, 4, 9, 10, 11, 12], .read 5, .calms [6, 7], .read 13, .calms [14]] (.fork3 8 (row [] (.fork 15 (row [.read 16, .act 17, .act 18] .done) 17 (row [.act 15, .read 16, .act 18] .done))) 15 (row [] (.fork 8 (row [.read 16, .act 17, .act 18] .done) 17 (row [.act 8, .read 16, .act 18] .done))) 17 (row [] (.fork 8 (row [.act 15, .read 16, .act 18] .done) 15 (row [.act 8, .read 16, .act 18] .done))))) (by kernel_rfl) (by rfl) (by kernel_rfl) (by kernel_rfl) hc0 ?_
        have HC := Lib.hid hc0
        clear hc0
        generalize wr.drew = wd at *
        have HB0 := HB
        have HB := HC
        clear HC
        refine plan_calms (by simp [calmRow, need]; rfl) ?_
        go_wp2_with fail
        refine plan_read (by rfl) (.int .u8 (ke : Int)) (by rfl) (fun W hW => exec_load rfl rfl (by kernel_rfl) (HCK.out W (HB0.out.trans (hW.mono HB0.out.size))).2.1) ?_
        refine plan_calms (by simp [calmRow, need, chk]; rfl) ?_
        go_wp2_with fail
        refine plan_read (by rfl) (.int .u16 (va : Int)) (by rfl) (fun W hW => exec_load rfl rfl (by kernel_rfl) (HCK.out W (HB0.out.trans (hW.mono HB0.out.size))).2.2) ?_
        refine plan_calms (by simp [calmRow, need, chk]; rfl) ?_
        go_wp2_with fail
        refine plan_fork3 (by rfl) (by rfl) (by rfl) ?_ ?_ ?_
        · skip
          go_wp2_with fail
          have hBe := (Below.refl _ wd).alloc (Nat.le_refl _) (.cells (madeCells #[.int .u8 0] nk) 5)
          have qK := Blk.new wd 5 (madeCells #[.int .u8 0] nk)
          have hsz := HB.out.size
          obtain ⟨gK, hgK⟩ : ∃ g, g = wd.heap.size := ⟨_, rfl⟩
          rw [← hgK] at qK ⊢
          have bK : wr.heap.size ≤ gK := by omega
          have HB := Lib.hid (belowGo HB.out hBe)
          have QK := Lib.hid qK
          clear hgK hsz hBe qK 
          generalize wd.alloc (.cells (madeCells #[.int .u8 0] nk) 5) = y1 at *
          refine ⟨HB.out, ?_⟩
          refine plan_fork (by rfl) (by rfl) ?_ ?_
          · skip
            go_wp2_with fail
            have lK := QK.out.lt
            have hBe := (Below.refl _ y1).alloc (Nat.le_refl _) (.cells (madeCells #[.int .u8 0] nv) 5)
            have qV := Blk.new y1 5 (madeCells #[.int .u8 0] nv)
            have hsz := HB.out.size
            obtain ⟨gV, hgV⟩ : ∃ g, g = y1.heap.size := ⟨_, rfl⟩
            rw [← hgV] at qV ⊢
            have bV : wr.heap.size ≤ gV := by omega
            have nKV : gK ≠ gV := by omega
            have HB := Lib.hid (belowGo HB.out hBe)
            have QK := Lib.hid (QK.out.after hBe)
            have QV := Lib.hid qV
            clear hgV hsz hBe qV lK
            generalize y1.alloc (.cells (madeCells #[.int .u8 0] nv) 5) = y2 at *
            refine ⟨HB.out, ?_⟩
            refine plan_read (by rfl) (.agg #[.int .u64 (q : Int), .int .i64 1, .slice (some ⟨gK, 0, none⟩) nk nk, .slice (some ⟨gV, 0, none⟩) nv nv, .int .u32 0, .int .u32 0]) (by rfl) (fun W _ => exec_build rfl (by kernel_rfl)) ?_
            refine plan_act (by rfl) ?_
            go_wp2_with fail
            have lK := QK.out.lt
            have lV := QV.out.lt
            have hBe := (Below.refl _ y2).alloc (Nat.le_refl _) (.cells #[.int .u64 0, .int .i64 0, .slice none 0 0, .slice none 0 0, .int .u32 0, .int .u32 0] 44)
            have qR := Blk.new y2 44 #[.int .u64 0, .int .i64 0, .slice none 0 0, .slice none 0 0, .int .u32 0, .int .u32 0]
            have hsz := HB.out.size
            obtain ⟨gR, hgR⟩ : ∃ g, g = y2.heap.size := ⟨_, rfl⟩
            rw [← hgR] at qR ⊢
            have bR : wr.heap.size ≤ gR := by omega
            have nKR : gK ≠ gR := by omega
            have nRV : gR ≠ gV := by omega
            have HB := Lib.hid (belowGo HB.out hBe)
            have QK := Lib.hid (QK.out.after hBe)
            have QV := Lib.hid (QV.out.after hBe)
            have QR := Lib.hid qR
            clear hgR hsz hBe qR lK lV
            generalize y2.alloc (.cells #[.int .u64 0, .int .i64 0, .slice none 0 0, .slice none 0 0, .int .u32 0, .int .u32 0] 44) = y3 at *
            refine ⟨HB.out, ?_⟩
            refine plan_last (by rfl) (by kernel_rfl) ?_
            have d0 := QR.out.cell 0
            have f0 := QR.out.frozen 0
            have d1 := QR.out.cell 1
            have f1 := QR.out.frozen 1
            have d2 := QR.out.cell 2
            have f2 := QR.out.frozen 2
            have d3 := QR.out.cell 3
            have f3 := QR.out.frozen 3
            have d4 := QR.out.cell 4
            have f4 := QR.out.frozen 4
            have d5 := QR.out.cell 5
            have f5 := QR.out.frozen 5
            go_wp2_with fail
            have HB := Lib.hid ((((((HB.out.setCell (p := ⟨gR, 0, none⟩) bR (.int .u64 (q : Int))).setCell (p := ⟨gR, 1, none⟩) bR (.int .i64 1)).setCell (p := ⟨gR, 2, none⟩) bR (.slice (some ⟨gK, 0, none⟩) nk nk)).setCell (p := ⟨gR, 3, none⟩) bR (.slice (some ⟨gV, 0, none⟩) nv nv)).setCell (p := ⟨gR, 4, none⟩) bR (.int .u32 0)).setCell (p := ⟨gR, 5, none⟩) bR (.int .u32 0))
            have QK := Lib.hid ((((((QK.out.far (p := ⟨gR, 0, none⟩) nKR (.int .u64 (q : Int))).far (p := ⟨gR, 1, none⟩) nKR (.int .i64 1)).far (p := ⟨gR, 2, none⟩) nKR (.slice (some ⟨gK, 0, none⟩) nk nk)).far (p := ⟨gR, 3, none⟩) nKR (.slice (some ⟨gV, 0, none⟩) nv nv)).far (p := ⟨gR, 4, none⟩) nKR (.int .u32 0)).far (p := ⟨gR, 5, none⟩) nKR (.int .u32 0))
            have QV := Lib.hid ((((((QV.out.far (p := ⟨gR, 0, none⟩) nRV.symm (.int .u64 (q : Int))).far (p := ⟨gR, 1, none⟩) nRV.symm (.int .i64 1)).far (p := ⟨gR, 2, none⟩) nRV.symm (.slice (some ⟨gK, 0, none⟩) nk nk)).far (p := ⟨gR, 3, none⟩) nRV.symm (.slice (some ⟨gV, 0, none⟩) nv nv)).far (p := ⟨gR, 4, none⟩) nRV.symm (.int .u32 0)).far (p := ⟨gR, 5, none⟩) nRV.symm (.int .u32 0))
            have qR : Blk (World.setCell (World.setCell (World.setCell (World.setCell (World.setCell (World.setCell y3 ⟨gR, 0, none⟩ (.int .u64 (q : Int))) ⟨gR, 1, none⟩ (.int .i64 1)) ⟨gR, 2, none⟩ (.slice (some ⟨gK, 0, none⟩) nk nk)) ⟨gR, 3, none⟩ (.slice (some ⟨gV, 0, none⟩) nv nv)) ⟨gR, 4, none⟩ (.int .u32 0)) ⟨gR, 5, none⟩ (.int .u32 0)) gR _ #[.int .u64 (q : Int), .int .i64 1, .slice (some ⟨gK, 0, none⟩) nk nk, .slice (some ⟨gV, 0, none⟩) nv nv, .int .u32 0, .int .u32 0] := (blk_eq ((((((QR.out.set_ 0 (.int .u64 (q : Int))).set_ 1 (.int .i64 1)).set_ 2 (.slice (some ⟨gK, 0, none⟩) nk nk)).set_ 3 (.slice (some ⟨gV, 0, none⟩) nv nv)).set_ 4 (.int .u32 0)).set_ 5 (.int .u32 0)) rfl)
            have QR := Lib.hid qR
            clear qR d0 f0 d1 f1 d2 f2 d3 f3 d4 f4 d5 f5
            generalize (World.setCell (World.setCell (World.setCell (World.setCell (World.setCell (World.setCell y3 ⟨gR, 0, none⟩ (.int .u64 (q : Int))) ⟨gR, 1, none⟩ (.int .i64 1)) ⟨gR, 2, none⟩ (.slice (some ⟨gK, 0, none⟩) nk nk)) ⟨gR, 3, none⟩ (.slice (some ⟨gV, 0, none⟩) nv nv)) ⟨gR, 4, none⟩ (.int .u32 0)) ⟨gR, 5, none⟩ (.int .u32 0)) = y4 at *
            refine plan_end ?_
            go_wp2_with fail
            go_meet
            case rel => exact ⟨gR, gK, gV, rfl, QR.out, QK.out, QV.out, nKV, bK, bV, bR, nKR, HB.out⟩
          · skip
            go_wp2_with fail
            have lK := QK.out.lt
            have hBe := (Below.refl _ y1).alloc (Nat.le_refl _) (.cells #[.int .u64 0, .int .i64 0, .slice none 0 0, .slice none 0 0, .int .u32 0, .int .u32 0] 44)
            have qR := Blk.new y1 44 #[.int .u64 0, .int .i64 0, .slice none 0 0, .slice none 0 0, .int .u32 0, .int .u32 0]
            have hsz := HB.out.size
            obtain ⟨gR, hgR⟩ : ∃ g, g = y1.heap.size := ⟨_, rfl⟩
            rw [← hgR] at qR ⊢
            have bR : wr.heap.size ≤ gR := by omega
            have nKR : gK ≠ gR := by omega
            have HB := Lib.hid (belowGo HB.out hBe)
            have QK := Lib.hid (QK.out.after hBe)
            have QR := Lib.hid qR
            clear hgR hsz hBe qR lK
            generalize y1.alloc (.cells #[.int .u64 0, .int .i64 0, .slice none 0 0, .slice none 0 0, .int .u32 0, .int .u32 0] 44) = y5 at *
            refine ⟨HB.out, ?_⟩
            refine plan_act (by rfl) ?_
            go_wp2_with fail
            have lK := QK.out.lt
            have lR := QR.out.lt
            have hBe := (Below.refl _ y5).alloc (Nat.le_refl _) (.cells (madeCells #[.int .u8 0] nv) 5)
            have qV := Blk.new y5 5 (madeCells #[.int .u8 0] nv)
            have hsz := HB.out.size
            obtain ⟨gV, hgV⟩ : ∃ g, g = y5.heap.size := ⟨_, rfl⟩
            rw [← hgV] at qV ⊢
            have bV : wr.heap.size ≤ gV := by omega
            have nKV : gK ≠ gV := by omega
            have nRV : gR ≠ gV := by omega
            have HB := Lib.hid (belowGo HB.out hBe)
            have QK := Lib.hid (QK.out.after hBe)
            have QR := Lib.hid (QR.out.after hBe)
            have QV := Lib.hid qV
            clear hgV hsz hBe qV lK lR
            generalize y5.alloc (.cells (madeCells #[.int .u8 0] nv) 5) = y6 at *
            refine ⟨HB.out, ?_⟩
            refine plan_read (by rfl) (.agg #[.int .u64 (q : Int), .int .i64 1, .slice (some ⟨gK, 0, none⟩) nk nk, .slice (some ⟨gV, 0, none⟩) nv nv, .int .u32 0, .int .u32 0]) (by rfl) (fun W _ => exec_build rfl (by kernel_rfl)) ?_
            refine plan_last (by rfl) (by kernel_rfl) ?_
            have d0 := QR.out.cell 0
            have f0 := QR.out.frozen 0
            have d1 := QR.out.cell 1
            have f1 := QR.out.frozen 1
            have d2 := QR.out.cell 2
            have f2 := QR.out.frozen 2
            have d3 := QR.out.cell 3
            have f3 := QR.out.frozen 3
            have d4 := QR.out.cell 4
            have f4 := QR.out.frozen 4
            have d5 := QR.out.cell 5
            have f5 := QR.out.frozen 5
            go_wp2_with fail
            have HB := Lib.hid ((((((HB.out.setCell (p := ⟨gR, 0, none⟩) bR (.int .u64 (q : Int))).setCell (p := ⟨gR, 1, none⟩) bR (.int .i64 1)).setCell (p := ⟨gR, 2, none⟩) bR (.slice (some ⟨gK, 0, none⟩) nk nk)).setCell (p := ⟨gR, 3, none⟩) bR (.slice (some ⟨gV, 0, none⟩) nv nv)).setCell (p := ⟨gR, 4, none⟩) bR (.int .u32 0)).setCell (p := ⟨gR, 5, none⟩) bR (.int .u32 0))
            have QK := Lib.hid ((((((QK.out.far (p := ⟨gR, 0, none⟩) nKR (.int .u64 (q : Int))).far (p := ⟨gR, 1, none⟩) nKR (.int .i64 1)).far (p := ⟨gR, 2, none⟩) nKR (.slice (some ⟨gK, 0, none⟩) nk nk)).far (p := ⟨gR, 3, none⟩) nKR (.slice (some ⟨gV, 0, none⟩) nv nv)).far (p := ⟨gR, 4, none⟩) nKR (.int .u32 0)).far (p := ⟨gR, 5, none⟩) nKR (.int .u32 0))
            have QV := Lib.hid ((((((QV.out.far (p := ⟨gR, 0, none⟩) nRV.symm (.int .u64 (q : Int))).far (p := ⟨gR, 1, none⟩) nRV.symm (.int .i64 1)).far (p := ⟨gR, 2, none⟩) nRV.symm (.slice (some ⟨gK, 0, none⟩) nk nk)).far (p := ⟨gR, 3, none⟩) nRV.symm (.slice (some ⟨gV, 0, none⟩) nv nv)).far (p := ⟨gR, 4, none⟩) nRV.symm (.int .u32 0)).far (p := ⟨gR, 5, none⟩) nRV.symm (.int .u32 0))
            have qR : Blk (World.setCell (World.setCell (World.setCell (World.setCell (World.setCell (World.setCell y6 ⟨gR, 0, none⟩ (.int .u64 (q : Int))) ⟨gR, 1, none⟩ (.int .i64 1)) ⟨gR, 2, none⟩ (.slice (some ⟨gK, 0, none⟩) nk nk)) ⟨gR, 3, none⟩ (.slice (some ⟨gV, 0, none⟩) nv nv)) ⟨gR, 4, none⟩ (.int .u32 0)) ⟨gR, 5, none⟩ (.int .u32 0)) gR _ #[.int .u64 (q : Int), .int .i64 1, .slice (some ⟨gK, 0, none⟩) nk nk, .slice (some ⟨gV, 0, none⟩) nv nv, .int .u32 0, .int .u32 0] := (blk_eq ((((((QR.out.set_ 0 (.int .u64 (q : Int))).set_ 1 (.int .i64 1)).set_ 2 (.slice (some ⟨gK, 0, none⟩) nk nk)).set_ 3 (.slice (some ⟨gV, 0, none⟩) nv nv)).set_ 4 (.int .u32 0)).set_ 5 (.int .u32 0)) rfl)
            have QR := Lib.hid qR
            clear qR d0 f0 d1 f1 d2 f2 d3 f3 d4 f4 d5 f5
            generalize (World.setCell (World.setCell (World.setCell (World.setCell (World.setCell (World.setCell y6 ⟨gR, 0, none⟩ (.int .u64 (q : Int))) ⟨gR, 1, none⟩ (.int .i64 1)) ⟨gR, 2, none⟩ (.slice (some ⟨gK, 0, none⟩) nk nk)) ⟨gR, 3, none⟩ (.slice (some ⟨gV, 0, none⟩) nv nv)) ⟨gR, 4, none⟩ (.int .u32 0)) ⟨gR, 5, none⟩ (.int .u32 0)) = y7 at *
            refine plan_end ?_
            go_wp2_with fail
            go_meet
            case rel => exact ⟨gR, gK, gV, rfl, QR.out, QK.out, QV.out, nKV, bK, bV, bR, nKR, HB.out⟩
        · skip
          go_wp2_with fail
          have hBe := (Below.refl _ wd).alloc (Nat.le_refl _) (.cells (madeCells #[.int .u8 0] nv) 5)
          have qV := Blk.new wd 5 (madeCells #[.int .u8 0] nv)
          have hsz := HB.out.size
          obtain ⟨gV, hgV⟩ : ∃ g, g = wd.heap.size := ⟨_, rfl⟩
          rw [← hgV] at qV ⊢
          have bV : wr.heap.size ≤ gV := by omega
          have HB := Lib.hid (belowGo HB.out hBe)
          have QV := Lib.hid qV
          clear hgV hsz hBe qV 
          generalize wd.alloc (.cells (madeCells #[.int .u8 0] nv) 5) = y8 at *
          refine ⟨HB.out, ?_⟩
          refine plan_fork (by rfl) (by rfl) ?_ ?_
          · skip
            go_wp2_with fail
            have lV := QV.out.lt
            have hBe := (Below.refl _ y8).alloc (Nat.le_refl _) (.cells (madeCells #[.int .u8 0] nk) 5)
            have qK := Blk.new y8 5 (madeCells #[.int .u8 0] nk)
            have hsz := HB.out.size
            obtain ⟨gK, hgK⟩ : ∃ g, g = y8.heap.size := ⟨_, rfl⟩
            rw [← hgK] at qK ⊢
            have bK : wr.heap.size ≤ gK := by omega
            have nKV : gK ≠ gV := by omega
            have HB := Lib.hid (belowGo HB.out hBe)
            have QV := Lib.hid (QV.out.after hBe)
            have QK := Lib.hid qK
            clear hgK hsz hBe qK lV
            generalize y8.alloc (.cells (madeCells #[.int .u8 0] nk) 5) = y9 at *
            refine ⟨HB.out, ?_⟩
            refine plan_read (by rfl) (.agg #[.int .u64 (q : Int), .int .i64 1, .slice (some ⟨gK, 0, none⟩) nk nk, .slice (some ⟨gV, 0, none⟩) nv nv, .int .u32 0, .int .u32 0]) (by rfl) (fun W _ => exec_build rfl (by kernel_rfl)) ?_
            refine plan_act (by rfl) ?_
            go_wp2_with fail
            have lV := QV.out.lt
            have lK := QK.out.lt
            have hBe := (Below.refl _ y9).alloc (Nat.le_refl _) (.cells #[.int .u64 0, .int .i64 0, .slice none 0 0, .slice none 0 0, .int .u32 0, .int .u32 0] 44)
            have qR := Blk.new y9 44 #[.int .u64 0, .int .i64 0, .slice none 0 0, .slice none 0 0, .int .u32 0, .int .u32 0]
            have hsz := HB.out.size
            obtain ⟨gR, hgR⟩ : ∃ g, g = y9.heap.size := ⟨_, rfl⟩
            rw [← hgR] at qR ⊢
            have bR : wr.heap.size ≤ gR := by omega
            have nRV : gR ≠ gV := by omega
            have nKR : gK ≠ gR := by omega
            have HB := Lib.hid (belowGo HB.out hBe)
            have QV := Lib.hid (QV.out.after hBe)
            have QK := Lib.hid (QK.out.after hBe)
            have QR := Lib.hid qR
            clear hgR hsz hBe qR lV lK
            generalize y9.alloc (.cells #[.int .u64 0, .int .i64 0, .slice none 0 0, .slice none 0 0, .int .u32 0, .int .u32 0] 44) = y10 at *
            refine ⟨HB.out, ?_⟩
            refine plan_last (by rfl) (by kernel_rfl) ?_
            have d0 := QR.out.cell 0
            have f0 := QR.out.frozen 0
            have d1 := QR.out.cell 1
            have f1 := QR.out.frozen 1
            have d2 := QR.out.cell 2
            have f2 := QR.out.frozen 2
            have d3 := QR.out.cell 3
            have f3 := QR.out.frozen 3
            have d4 := QR.out.cell 4
            have f4 := QR.out.frozen 4
            have d5 := QR.out.cell 5
            have f5 := QR.out.frozen 5
            go_wp2_with fail
            have HB := Lib.hid ((((((HB.out.setCell (p := ⟨gR, 0, none⟩) bR (.int .u64 (q : Int))).setCell (p := ⟨gR, 1, none⟩) bR (.int .i64 1)).setCell (p := ⟨gR, 2, none⟩) bR (.slice (some ⟨gK, 0, none⟩) nk nk)).setCell (p := ⟨gR, 3, none⟩) bR (.slice (some ⟨gV, 0, none⟩) nv nv)).setCell (p := ⟨gR, 4, none⟩) bR (.int .u32 0)).setCell (p := ⟨gR, 5, none⟩) bR (.int .u32 0))
            have QV := Lib.hid ((((((QV.out.far (p := ⟨gR, 0, none⟩) nRV.symm (.int .u64 (q : Int))).far (p := ⟨gR, 1, none⟩) nRV.symm (.int .i64 1)).far (p := ⟨gR, 2, none⟩) nRV.symm (.slice (some ⟨gK, 0, none⟩) nk nk)).far (p := ⟨gR, 3, none⟩) nRV.symm (.slice (some ⟨gV, 0, none⟩) nv nv)).far (p := ⟨gR, 4, none⟩) nRV.symm (.int .u32 0)).far (p := ⟨gR, 5, none⟩) nRV.symm (.int .u32 0))
            have QK := Lib.hid ((((((QK.out.far (p := ⟨gR, 0, none⟩) nKR (.int .u64 (q : Int))).far (p := ⟨gR, 1, none⟩) nKR (.int .i64 1)).far (p := ⟨gR, 2, none⟩) nKR (.slice (some ⟨gK, 0, none⟩) nk nk)).far (p := ⟨gR, 3, none⟩) nKR (.slice (some ⟨gV, 0, none⟩) nv nv)).far (p := ⟨gR, 4, none⟩) nKR (.int .u32 0)).far (p := ⟨gR, 5, none⟩) nKR (.int .u32 0))
            have qR : Blk (World.setCell (World.setCell (World.setCell (World.setCell (World.setCell (World.setCell y10 ⟨gR, 0, none⟩ (.int .u64 (q : Int))) ⟨gR, 1, none⟩ (.int .i64 1)) ⟨gR, 2, none⟩ (.slice (some ⟨gK, 0, none⟩) nk nk)) ⟨gR, 3, none⟩ (.slice (some ⟨gV, 0, none⟩) nv nv)) ⟨gR, 4, none⟩ (.int .u32 0)) ⟨gR, 5, none⟩ (.int .u32 0)) gR _ #[.int .u64 (q : Int), .int .i64 1, .slice (some ⟨gK, 0, none⟩) nk nk, .slice (some ⟨gV, 0, none⟩) nv nv, .int .u32 0, .int .u32 0] := (blk_eq ((((((QR.out.set_ 0 (.int .u64 (q : Int))).set_ 1 (.int .i64 1)).set_ 2 (.slice (some ⟨gK, 0, none⟩) nk nk)).set_ 3 (.slice (some ⟨gV, 0, none⟩) nv nv)).set_ 4 (.int .u32 0)).set_ 5 (.int .u32 0)) rfl)
            have QR := Lib.hid qR
            clear qR d0 f0 d1 f1 d2 f2 d3 f3 d4 f4 d5 f5
            generalize (World.setCell (World.setCell (World.setCell (World.setCell (World.setCell (World.setCell y10 ⟨gR, 0, none⟩ (.int .u64 (q : Int))) ⟨gR, 1, none⟩ (.int .i64 1)) ⟨gR, 2, none⟩ (.slice (some ⟨gK, 0, none⟩) nk nk)) ⟨gR, 3, none⟩ (.slice (some ⟨gV, 0, none⟩) nv nv)) ⟨gR, 4, none⟩ (.int .u32 0)) ⟨gR, 5, none⟩ (.int .u32 0)) = y11 at *
            refine plan_end ?_
            go_wp2_with fail
            go_meet
            case rel => exact ⟨gR, gK, gV, rfl, QR.out, QK.out, QV.out, nKV, bK, bV, bR, nKR, HB.out⟩
          · skip
            go_wp2_with fail
            have lV := QV.out.lt
            have hBe := (Below.refl _ y8).alloc (Nat.le_refl _) (.cells #[.int .u64 0, .int .i64 0, .slice none 0 0, .slice none 0 0, .int .u32 0, .int .u32 0] 44)
            have qR := Blk.new y8 44 #[.int .u64 0, .int .i64 0, .slice none 0 0, .slice none 0 0, .int .u32 0, .int .u32 0]
            have hsz := HB.out.size
            obtain ⟨gR, hgR⟩ : ∃ g, g = y8.heap.size := ⟨_, rfl⟩
            rw [← hgR] at qR ⊢
            have bR : wr.heap.size ≤ gR := by omega
            have nRV : gR ≠ gV := by omega
            have HB := Lib.hid (belowGo HB.out hBe)
            have QV := Lib.hid (QV.out.after hBe)
            have QR := Lib.hid qR
            clear hgR hsz hBe qR lV
            generalize y8.alloc (.cells #[.int .u64 0, .int .i64 0, .slice none 0 0, .slice none 0 0, .int .u32 0, .int .u32 0] 44) = y12 at *
            refine ⟨HB.out, ?_⟩
            refine plan_act (by rfl) ?_
            go_wp2_with fail
            have lV := QV.out.lt
            have lR := QR.out.lt
            have hBe := (Below.refl _ y12).alloc (Nat.le_refl _) (.cells (madeCells #[.int .u8 0] nk) 5)
            have qK := Blk.new y12 5 (madeCells #[.int .u8 0] nk)
            have hsz := HB.out.size
            obtain ⟨gK, hgK⟩ : ∃ g, g = y12.heap.size := ⟨_, rfl⟩
            rw [← hgK] at qK ⊢
            have bK : wr.heap.size ≤ gK := by omega
            have nKV : gK ≠ gV := by omega
            have nKR : gK ≠ gR := by omega
            have HB := Lib.hid (belowGo HB.out hBe)
            have QV := Lib.hid (QV.out.after hBe)
            have QR := Lib.hid (QR.out.after hBe)
            have QK := Lib.hid qK
            clear hgK hsz hBe qK lV lR
            generalize y12.alloc (.cells (madeCells #[.int .u8 0] nk) 5) = y13 at *
            refine ⟨HB.out, ?_⟩
            refine plan_read (by rfl) (.agg #[.int .u64 (q : Int), .int .i64 1, .slice (some ⟨gK, 0, none⟩) nk nk, .slice (some ⟨gV, 0, none⟩) nv nv, .int .u32 0, .int .u32 0]) (by rfl) (fun W _ => exec_build rfl (by kernel_rfl)) ?_
            refine plan_last (by rfl) (by kernel_rfl) ?_
            have d0 := QR.out.cell 0
            have f0 := QR.out.frozen 0
            have d1 := QR.out.cell 1
            have f1 := QR.out.frozen 1
            have d2 := QR.out.cell 2
            have f2 := QR.out.frozen 2
            have d3 := QR.out.cell 3
            have f3 := QR.out.frozen 3
            have d4 := QR.out.cell 4
            have f4 := QR.out.frozen 4
            have d5 := QR.out.cell 5
            have f5 := QR.out.frozen 5
            go_wp2_with fail
            have HB := Lib.hid ((((((HB.out.setCell (p := ⟨gR, 0, none⟩) bR (.int .u64 (q : Int))).setCell (p := ⟨gR, 1, none⟩) bR (.int .i64 1)).setCell (p := ⟨gR, 2, none⟩) bR (.slice (some ⟨gK, 0, none⟩) nk nk)).setCell (p := ⟨gR, 3, none⟩) bR (.slice (some ⟨gV, 0, none⟩) nv nv)).setCell (p := ⟨gR, 4, none⟩) bR (.int .u32 0)).setCell (p := ⟨gR, 5, none⟩) bR (.int .u32 0))
            have QV := Lib.hid ((((((QV.out.far (p := ⟨gR, 0, none⟩) nRV.symm (.int .u64 (q : Int))).far (p := ⟨gR, 1, none⟩) nRV.symm (.int .i64 1)).far (p := ⟨gR, 2, none⟩) nRV.symm (.slice (some ⟨gK, 0, none⟩) nk nk)).far (p := ⟨gR, 3, none⟩) nRV.symm (.slice (some ⟨gV, 0, none⟩) nv nv)).far (p := ⟨gR, 4, none⟩) nRV.symm (.int .u32 0)).far (p := ⟨gR, 5, none⟩) nRV.symm (.int .u32 0))
            have QK := Lib.hid ((((((QK.out.far (p := ⟨gR, 0, none⟩) nKR (.int .u64 (q : Int))).far (p := ⟨gR, 1, none⟩) nKR (.int .i64 1)).far (p := ⟨gR, 2, none⟩) nKR (.slice (some ⟨gK, 0, none⟩) nk nk)).far (p := ⟨gR, 3, none⟩) nKR (.slice (some ⟨gV, 0, none⟩) nv nv)).far (p := ⟨gR, 4, none⟩) nKR (.int .u32 0)).far (p := ⟨gR, 5, none⟩) nKR (.int .u32 0))
            have qR : Blk (World.setCell (World.setCell (World.setCell (World.setCell (World.setCell (World.setCell y13 ⟨gR, 0, none⟩ (.int .u64 (q : Int))) ⟨gR, 1, none⟩ (.int .i64 1)) ⟨gR, 2, none⟩ (.slice (some ⟨gK, 0, none⟩) nk nk)) ⟨gR, 3, none⟩ (.slice (some ⟨gV, 0, none⟩) nv nv)) ⟨gR, 4, none⟩ (.int .u32 0)) ⟨gR, 5, none⟩ (.int .u32 0)) gR _ #[.int .u64 (q : Int), .int .i64 1, .slice (some ⟨gK, 0, none⟩) nk nk, .slice (some ⟨gV, 0, none⟩) nv nv, .int .u32 0, .int .u32 0] := (blk_eq ((((((QR.out.set_ 0 (.int .u64 (q : Int))).set_ 1 (.int .i64 1)).set_ 2 (.slice (some ⟨gK, 0, none⟩) nk nk)).set_ 3 (.slice (some ⟨gV, 0, none⟩) nv nv)).set_ 4 (.int .u32 0)).set_ 5 (.int .u32 0)) rfl)
            have QR := Lib.hid qR
            clear qR d0 f0 d1 f1 d2 f2 d3 f3 d4 f4 d5 f5
            generalize (World.setCell (World.setCell (World.setCell (World.setCell (World.setCell (World.setCell y13 ⟨gR, 0, none⟩ (.int .u64 (q : Int))) ⟨gR, 1, none⟩ (.int .i64 1)) ⟨gR, 2, none⟩ (.slice (some ⟨gK, 0, none⟩) nk nk)) ⟨gR, 3, none⟩ (.slice (some ⟨gV, 0, none⟩) nv nv)) ⟨gR, 4, none⟩ (.int .u32 0)) ⟨gR, 5, none⟩ (.int .u32 0)) = y14 at *
            refine plan_end ?_
            go_wp2_with fail
            go_meet
            case rel => exact ⟨gR, gK, gV, rfl, QR.out, QK.out, QV.out, nKV, bK, bV, bR, nKR, HB.out⟩
        · skip
          go_wp2_with fail
          have hBe := (Below.refl _ wd).alloc (Nat.le_refl _) (.cells #[.int .u64 0, .int .i64 0, .slice none 0 0, .slice none 0 0, .int .u32 0, .int .u32 0] 44)
          have qR := Blk.new wd 44 #[.int .u64 0, .int .i64 0, .slice none 0 0, .slice none 0 0, .int .u32 0, .int .u32 0]
          have hsz := HB.out.size
          obtain ⟨gR, hgR⟩ : ∃ g, g = wd.heap.size := ⟨_, rfl⟩
          rw [← hgR] at qR ⊢
          have bR : wr.heap.size ≤ gR := by omega
          have HB := Lib.hid (belowGo HB.out hBe)
          have QR := Lib.hid qR
          clear hgR hsz hBe qR 
          generalize wd.alloc (.cells #[.int .u64 0, .int .i64 0, .slice none 0 0, .slice none 0 0, .int .u32 0, .int .u32 0] 44) = y15 at *
          refine ⟨HB.out, ?_⟩
          refine plan_fork (by rfl) (by rfl) ?_ ?_
          · skip
            go_wp2_with fail
            have lR := QR.out.lt
            have hBe := (Below.refl _ y15).alloc (Nat.le_refl _) (.cells (madeCells #[.int .u8 0] nk) 5)
            have qK := Blk.new y15 5 (madeCells #[.int .u8 0] nk)
            have hsz := HB.out.size
            obtain ⟨gK, hgK⟩ : ∃ g, g = y15.heap.size := ⟨_, rfl⟩
            rw [← hgK] at qK ⊢
            have bK : wr.heap.size ≤ gK := by omega
            have nKR : gK ≠ gR := by omega
            have HB := Lib.hid (belowGo HB.out hBe)
            have QR := Lib.hid (QR.out.after hBe)
            have QK := Lib.hid qK
            clear hgK hsz hBe qK lR
            generalize y15.alloc (.cells (madeCells #[.int .u8 0] nk) 5) = y16 at *
            refine ⟨HB.out, ?_⟩
            refine plan_act (by rfl) ?_
            go_wp2_with fail
            have lR := QR.out.lt
            have lK := QK.out.lt
            have hBe := (Below.refl _ y16).alloc (Nat.le_refl _) (.cells (madeCells #[.int .u8 0] nv) 5)
            have qV := Blk.new y16 5 (madeCells #[.int .u8 0] nv)
            have hsz := HB.out.size
            obtain ⟨gV, hgV⟩ : ∃ g, g = y16.heap.size := ⟨_, rfl⟩
            rw [← hgV] at qV ⊢
            have bV : wr.heap.size ≤ gV := by omega
            have nRV : gR ≠ gV := by omega
            have nKV : gK ≠ gV := by omega
            have HB := Lib.hid (belowGo HB.out hBe)
            have QR := Lib.hid (QR.out.after hBe)
            have QK := Lib.hid (QK.out.after hBe)
            have QV := Lib.hid qV
            clear hgV hsz hBe qV lR lK
            generalize y16.alloc (.cells (madeCells #[.int .u8 0] nv) 5) = y17 at *
            refine ⟨HB.out, ?_⟩
            refine plan_read (by rfl) (.agg #[.int .u64 (q : Int), .int .i64 1, .slice (some ⟨gK, 0, none⟩) nk nk, .slice (some ⟨gV, 0, none⟩) nv nv, .int .u32 0, .int .u32 0]) (by rfl) (fun W _ => exec_build rfl (by kernel_rfl)) ?_
            refine plan_last (by rfl) (by kernel_rfl) ?_
            have d0 := QR.out.cell 0
            have f0 := QR.out.frozen 0
            have d1 := QR.out.cell 1
            have f1 := QR.out.frozen 1
            have d2 := QR.out.cell 2
            have f2 := QR.out.frozen 2
            have d3 := QR.out.cell 3
            have f3 := QR.out.frozen 3
            have d4 := QR.out.cell 4
            have f4 := QR.out.frozen 4
            have d5 := QR.out.cell 5
            have f5 := QR.out.frozen 5
            go_wp2_with fail
            have HB := Lib.hid ((((((HB.out.setCell (p := ⟨gR, 0, none⟩) bR (.int .u64 (q : Int))).setCell (p := ⟨gR, 1, none⟩) bR (.int .i64 1)).setCell (p := ⟨gR, 2, none⟩) bR (.slice (some ⟨gK, 0, none⟩) nk nk)).setCell (p := ⟨gR, 3, none⟩) bR (.slice (some ⟨gV, 0, none⟩) nv nv)).setCell (p := ⟨gR, 4, none⟩) bR (.int .u32 0)).setCell (p := ⟨gR, 5, none⟩) bR (.int .u32 0))
            have QK := Lib.hid ((((((QK.out.far (p := ⟨gR, 0, none⟩) nKR (.int .u64 (q : Int))).far (p := ⟨gR, 1, none⟩) nKR (.int .i64 1)).far (p := ⟨gR, 2, none⟩) nKR (.slice (some ⟨gK, 0, none⟩) nk nk)).far (p := ⟨gR, 3, none⟩) nKR (.slice (some ⟨gV, 0, none⟩) nv nv)).far (p := ⟨gR, 4, none⟩) nKR (.int .u32 0)).far (p := ⟨gR, 5, none⟩) nKR (.int .u32 0))
            have QV := Lib.hid ((((((QV.out.far (p := ⟨gR, 0, none⟩) nRV.symm (.int .u64 (q : Int))).far (p := ⟨gR, 1, none⟩) nRV.symm (.int .i64 1)).far (p := ⟨gR, 2, none⟩) nRV.symm (.slice (some ⟨gK, 0, none⟩) nk nk)).far (p := ⟨gR, 3, none⟩) nRV.symm (.slice (some ⟨gV, 0, none⟩) nv nv)).far (p := ⟨gR, 4, none⟩) nRV.symm (.int .u32 0)).far (p := ⟨gR, 5, none⟩) nRV.symm (.int .u32 0))
            have qR : Blk (World.setCell (World.setCell (World.setCell (World.setCell (World.setCell (World.setCell y17 ⟨gR, 0, none⟩ (.int .u64 (q : Int))) ⟨gR, 1, none⟩ (.int .i64 1)) ⟨gR, 2, none⟩ (.slice (some ⟨gK, 0, none⟩) nk nk)) ⟨gR, 3, none⟩ (.slice (some ⟨gV, 0, none⟩) nv nv)) ⟨gR, 4, none⟩ (.int .u32 0)) ⟨gR, 5, none⟩ (.int .u32 0)) gR _ #[.int .u64 (q : Int), .int .i64 1, .slice (some ⟨gK, 0, none⟩) nk nk, .slice (some ⟨gV, 0, none⟩) nv nv, .int .u32 0, .int .u32 0] := (blk_eq ((((((QR.out.set_ 0 (.int .u64 (q : Int))).set_ 1 (.int .i64 1)).set_ 2 (.slice (some ⟨gK, 0, none⟩) nk nk)).set_ 3 (.slice (some ⟨gV, 0, none⟩) nv nv)).set_ 4 (.int .u32 0)).set_ 5 (.int .u32 0)) rfl)
            have QR := Lib.hid qR
            clear qR d0 f0 d1 f1 d2 f2 d3 f3 d4 f4 d5 f5
            generalize (World.setCell (World.setCell (World.setCell (World.setCell (World.setCell (World.setCell y17 ⟨gR, 0, none⟩ (.int .u64 (q : Int))) ⟨gR, 1, none⟩ (.int .i64 1)) ⟨gR, 2, none⟩ (.slice (some ⟨gK, 0, none⟩) nk nk)) ⟨gR, 3, none⟩ (.slice (some ⟨gV, 0, none⟩) nv nv)) ⟨gR, 4, none⟩ (.int .u32 0)) ⟨gR, 5, none⟩ (.int .u32 0)) = y18 at *
            refine plan_end ?_
            go_wp2_with fail
            go_meet
            case rel => exact ⟨gR, gK, gV, rfl, QR.out, QK.out, QV.out, nKV, bK, bV, bR, nKR, HB.out⟩
          · skip
            go_wp2_with fail
            have lR := QR.out.lt
            have hBe := (Below.refl _ y15).alloc (Nat.le_refl _) (.cells (madeCells #[.int .u8 0] nv) 5)
            have qV := Blk.new y15 5 (madeCells #[.int .u8 0] nv)
            have hsz := HB.out.size
            obtain ⟨gV, hgV⟩ : ∃ g, g = y15.heap.size := ⟨_, rfl⟩
            rw [← hgV] at qV ⊢
            have bV : wr.heap.size ≤ gV := by omega
            have nRV : gR ≠ gV := by omega
            have HB := Lib.hid (belowGo HB.out hBe)
            have QR := Lib.hid (QR.out.after hBe)
            have QV := Lib.hid qV
            clear hgV hsz hBe qV lR
            generalize y15.alloc (.cells (madeCells #[.int .u8 0] nv) 5) = y19 at *
            refine ⟨HB.out, ?_⟩
            refine plan_act (by rfl) ?_
            go_wp2_with fail
            have lR := QR.out.lt
            have lV := QV.out.lt
            have hBe := (Below.refl _ y19).alloc (Nat.le_refl _) (.cells (madeCells #[.int .u8 0] nk) 5)
            have qK := Blk.new y19 5 (madeCells #[.int .u8 0] nk)
            have hsz := HB.out.size
            obtain ⟨gK, hgK⟩ : ∃ g, g = y19.heap.size := ⟨_, rfl⟩
            rw [← hgK] at qK ⊢
            have bK : wr.heap.size ≤ gK := by omega
            have nKR : gK ≠ gR := by omega
            have nKV : gK ≠ gV := by omega
            have HB := Lib.hid (belowGo HB.out hBe)
            have QR := Lib.hid (QR.out.after hBe)
            have QV := Lib.hid (QV.out.after hBe)
            have QK := Lib.hid qK
            clear hgK hsz hBe qK lR lV
            generalize y19.alloc (.cells (madeCells #[.int .u8 0] nk) 5) = y20 at *
            refine ⟨HB.out, ?_⟩
            refine plan_read (by rfl) (.agg #[.int .u64 (q : Int), .int .i64 1, .slice (some ⟨gK, 0, none⟩) nk nk, .slice (some ⟨gV, 0, none⟩) nv nv, .int .u32 0, .int .u32 0]) (by rfl) (fun W _ => exec_build rfl (by kernel_rfl)) ?_
            refine plan_last (by rfl) (by kernel_rfl) ?_
            have d0 := QR.out.cell 0
            have f0 := QR.out.frozen 0
            have d1 := QR.out.cell 1
            have f1 := QR.out.frozen 1
            have d2 := QR.out.cell 2
            have f2 := QR.out.frozen 2
            have d3 := QR.out.cell 3
            have f3 := QR.out.frozen 3
            have d4 := QR.out.cell 4
            have f4 := QR.out.frozen 4
            have d5 := QR.out.cell 5
            have f5 := QR.out.frozen 5
            go_wp2_with fail
            have HB := Lib.hid ((((((HB.out.setCell (p := ⟨gR, 0, none⟩) bR (.int .u64 (q : Int))).setCell (p := ⟨gR, 1, none⟩) bR (.int .i64 1)).setCell (p := ⟨gR, 2, none⟩) bR (.slice (some ⟨gK, 0, none⟩) nk nk)).setCell (p := ⟨gR, 3, none⟩) bR (.slice (some ⟨gV, 0, none⟩) nv nv)).setCell (p := ⟨gR, 4, none⟩) bR (.int .u32 0)).setCell (p := ⟨gR, 5, none⟩) bR (.int .u32 0))
            have QV := Lib.hid ((((((QV.out.far (p := ⟨gR, 0, none⟩) nRV.symm (.int .u64 (q : Int))).far (p := ⟨gR, 1, none⟩) nRV.symm (.int .i64 1)).far (p := ⟨gR, 2, none⟩) nRV.symm (.slice (some ⟨gK, 0, none⟩) nk nk)).far (p := ⟨gR, 3, none⟩) nRV.symm (.slice (some ⟨gV, 0, none⟩) nv nv)).far (p := ⟨gR, 4, none⟩) nRV.symm (.int .u32 0)).far (p := ⟨gR, 5, none⟩) nRV.symm (.int .u32 0))
            have QK := Lib.hid ((((((QK.out.far (p := ⟨gR, 0, none⟩) nKR (.int .u64 (q : Int))).far (p := ⟨gR, 1, none⟩) nKR (.int .i64 1)).far (p := ⟨gR, 2, none⟩) nKR (.slice (some ⟨gK, 0, none⟩) nk nk)).far (p := ⟨gR, 3, none⟩) nKR (.slice (some ⟨gV, 0, none⟩) nv nv)).far (p := ⟨gR, 4, none⟩) nKR (.int .u32 0)).far (p := ⟨gR, 5, none⟩) nKR (.int .u32 0))
            have qR : Blk (World.setCell (World.setCell (World.setCell (World.setCell (World.setCell (World.setCell y20 ⟨gR, 0, none⟩ (.int .u64 (q : Int))) ⟨gR, 1, none⟩ (.int .i64 1)) ⟨gR, 2, none⟩ (.slice (some ⟨gK, 0, none⟩) nk nk)) ⟨gR, 3, none⟩ (.slice (some ⟨gV, 0, none⟩) nv nv)) ⟨gR, 4, none⟩ (.int .u32 0)) ⟨gR, 5, none⟩ (.int .u32 0)) gR _ #[.int .u64 (q : Int), .int .i64 1, .slice (some ⟨gK, 0, none⟩) nk nk, .slice (some ⟨gV, 0, none⟩) nv nv, .int .u32 0, .int .u32 0] := (blk_eq ((((((QR.out.set_ 0 (.int .u64 (q : Int))).set_ 1 (.int .i64 1)).set_ 2 (.slice (some ⟨gK, 0, none⟩) nk nk)).set_ 3 (.slice (some ⟨gV, 0, none⟩) nv nv)).set_ 4 (.int .u32 0)).set_ 5 (.int .u32 0)) rfl)
            have QR := Lib.hid qR
            clear qR d0 f0 d1 f1 d2 f2 d3 f3 d4 f4 d5 f5
            generalize (World.setCell (World.setCell (World.setCell (World.setCell (World.setCell (World.setCell y20 ⟨gR, 0, none⟩ (.int .u64 (q : Int))) ⟨gR, 1, none⟩ (.int .i64 1)) ⟨gR, 2, none⟩ (.slice (some ⟨gK, 0, none⟩) nk nk)) ⟨gR, 3, none⟩ (.slice (some ⟨gV, 0, none⟩) nv nv)) ⟨gR, 4, none⟩ (.int .u32 0)) ⟨gR, 5, none⟩ (.int .u32 0)) = y21 at *
            refine plan_end ?_
            go_wp2_with fail
            go_meet
            case rel => exact ⟨gR, gK, gV, rfl, QR.out, QK.out, QV.out, nKV, bK, bV, bR, nKR, HB.out⟩
      case rest =>
        obtain ⟨gR, gK, gV, rfl, qR, qK, qV, nKV, bK, bV, bR, nKR, hc⟩ := hcut
        have hbz := HB.out.size
        have HBC := Lib.hid (HB.out.trans (hc.mono HB.out.size))
        have HO2 : Hid (Ow _ _ _ _ _ _ _) := Lib.hid (Ow.after HO.out hc)
        have HU2 : Hid (Ow _ _ _ _ _ _ _) := Lib.hid (Ow.after HU.out hc)
        have hvo := Ow.hi HO.out
        clear HO HU hm_nk hm_nv
        have d2 := qR.cell 2
        have fK := qK.frozen 0
        have cK : wc.cell? ⟨gK, 0, none⟩ = some (.int .u8 0) := by
          rw [qK.cell, ← Array.getElem?_toList, made_bytes]
          obtain ⟨nk', hnk'⟩ : ∃ x, nk = x + 1 := ⟨nk - 1, by omega⟩
          rw [hnk', List.replicate_succ]
          rfl
        have ek8 : (k : Int) % 256 = (k : Int) := by omega
        have hnk0 : (0 : Int) < (nk : Int) := by omega
        have hnk0' : 0 < nk := by omega
        have hbK : w.heap.size ≤ gK := by omega
        have hbV : w.heap.size ≤ gV := by omega
        have QR := Lib.hid qR
        have QK := Lib.hid qK
        have QV := Lib.hid qV
        clear qR qK qV hc
        go_upto_region 10 with (fail)
        have qR := QR.out.far (p := ⟨gK, 0, none⟩) nKR.symm (.int .u8 (k : Int))
        have qK := blk_eq (QK.out.set_ 0 (.int .u8 (k : Int))) HSET.out
        have qV := QV.out.far (p := ⟨gK, 0, none⟩) nKV.symm (.int .u8 (k : Int))
        have hb := HBC.out.setCell (p := ⟨gK, 0, none⟩) hbK (.int .u8 (k : Int))
        have ho : Ow _ _ _ _ _ _ _ := Ow.setB HO2.out hvo bK 0 (.int .u8 (k : Int))
        have hu : Ow _ _ _ _ _ _ _ := Ow.setT HU2.out QK.out (by decide) 0 (.int .u8 (k : Int))
        clear d2 fK cK HO2 HU2 QR QK QV HBC HSET
        generalize wc.setCell ⟨gK, 0, none⟩ (.int .u8 (k : Int)) = w4 at *
        have hVV : (List.replicate nv (0 : UInt8)).length = nv := List.length_replicate ..
        have rK := blk_rdb qK HKL.out (by unfold maxLen; omega)
        have rV := blk_rdb (blk_eq qV (by apply Array.toList_inj.1; rw [made_bytes] : _ = (bcells (List.replicate nv 0)).toArray)) hVV (by unfold maxLen; omega)
        generalize List.replicate nv (0 : UInt8) = VV at *
        have HP := Lib.hid (rputR_yes q 1 KK VV (some ⟨gK, 0, none⟩) nk nk (some ⟨gV, 0, none⟩) nv nv 0 0 w4 HMY.out rK rV)
        unfold recV at HP
        simp only [Int.cast_ofNat_Int] at HP
        have d0 := qR.cell 0
        have d1 := qR.cell 1
        have d2 := qR.cell 2
        have d3 := qR.cell 3
        have d4 := qR.cell 4
        have d5 := qR.cell 5
        have HO : Hid (Ow _ _ _ _ _ _ _) := Lib.hid ho
        have HU : Hid (Ow _ _ _ _ _ _ _) := Lib.hid hu
        have HB := Lib.hid hb
        clear ho hu hb qK qV rK rV qR hVV HMY
        go_wp2_with fail
        refine HP.out.mono ?_
        rintro e w5 ⟨v5, rfl, o5, b5⟩
        obtain ⟨A5, c5, rfl⟩ := own_slice o5
        have HO : Hid (Ow _ _ _ _ _ _ _) := Lib.hid (Ow.after HO.out b5)
        have HU : Hid (Ow _ _ _ _ _ _ _) := Lib.hid (Ow.after HU.out b5)
        have HB := Lib.hid (belowGo HB.out b5)
        have O5 : Hid (Ow _ _ _ _ _ _ _) := Lib.hid o5
        have eof : (offX l k : Int) + (25 + (nk : Int) + (nv : Int)) = (offX l (k + 1) : Int) := by have := HOF.out; omega
        clear o5 b5 HP d0 d1 d2 d3 d4 d5
        go_upto_region 12 with (at_builtin; refine wpList_push eltPlaced rfl (.tmp 62) (.tmp 72) rfl (W := w5) rfl HU.out rfl rfl (by simp [Value.oneCell']) (by omega) (by unfold maxLen; omega) HB.out HB.out.size ?_; intro v6 w6 o6 b6 g6 x6)
        have g6 : w5.grownBy w6 (Value.slice A4 k c4).ownBlock := g6
        have HO : Hid (Ow _ _ _ _ _ _ _) := Lib.hid (Ow.grownT HO.out HU.out (by decide) g6)
        have O5 : Hid (Ow _ _ _ _ _ _ _) := Lib.hid (Ow.grownT O5.out HU.out (by decide) g6)
        have R5 := Lib.hid (own_rd O5.out)
        obtain ⟨A6, c6, rfl⟩ := own_slice o6
        have O6 : Hid (Ow w6 w.heap.size 48 3 (.slice A6 (k + 1) c6) (k + 1) (plCells l (k + 1))) := Lib.hid (own_eq o6 rfl HPL.out.symm)
        have HB := Lib.hid b6
        clear g6 x6 o6 b6 HU O5
        go_wp2_with (at_builtin; refine wpList_app eltU8 rfl (.tmp 74) (.tmp 75) rfl rfl HO.out rfl R5.out (bcells_one _) (by omega) (by unfold maxLen; omega) HB.out HB.out.size ?_; intro v7 w7 o7 b7 g7 x7; have g7 : w6.grownBy w7 (Value.slice A3 (offX l k) c3).ownBlock := g7; have O6 : Hid (Ow _ _ _ _ _ _ _) := Lib.hid (Ow.grownT O6.out HO.out (by decide) g7); clear g7 x7; have O7 : Hid (Ow _ _ _ _ _ _ _) := Lib.hid o7; have B7 := Lib.hid b7; clear o7 b7)
        go_roundw
        case rel => exact ⟨k + 1, by omega, by go_num, by rw [HQ.out], own_eq O7.out (by have := HOF.out; omega) (by rw [HSG.out, bcells_append]), O6.out, B7.out⟩
        case measure => simp [intOf]; omega
    · have HE := Lib.hid (show k = m by omega)
      have HO := Lib.hid ho
      have HU := Lib.hid hu
      have HB := Lib.hid hb
      have hcase : ¬ (k : Int) < (n : Int) ∨ ((k : Int) < (n : Int) ∧ ¬ (k : Int) < 20) := by
        by_cases h1 : k < n
        · exact .inr ⟨by omega, by have := HMC.out; omega⟩
        · exact .inl (by omega)
      clear ho hu hb hlt
      rcases hcase with i1 | ⟨i1, i2⟩
      all_goals
        go_wp2_with fail
        go_ret2
        exact ⟨_, _, rfl, by have := HO.out; rw [HE.out] at this; exact own_eq (HE.out ▸ HO.out) rfl rfl, HE.out ▸ HU.out, HB.out⟩
end Go.Proofs.YtfapipamohlniaaDoor
