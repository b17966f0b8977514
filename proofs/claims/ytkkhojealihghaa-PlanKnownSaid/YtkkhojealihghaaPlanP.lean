/- The plan's law for a region in which an act may panic. Plain law, no condition of its own. -/
import Derived.Test.YtkkhojealihghaaPlan
namespace Go.Proofs.Ytkkhojealihghaa
open Go.RowKit
/-- behind a panic: what holds, whatever the frame -/
def thr (X : List PanicEntry → World → Prop) : Exit → Act → World → Prop
  | .panic c, a, w => a.defers = [] ∧ X c w
  | _, _, _ => False
theorem put_defs (a : Act) (d : Option Tmp) (v : Value) : (a.put d v).defers = a.defers := by cases d <;> rfl
section
variable {P : Program} {ops : Array Oper} {Q : Exit → Act → World → Prop} {I : World → Prop} {X : List PanicEntry → World → Prop}
def PlanP (P : Program) (ops : Array Oper) (I : World → Prop) (X : List PanicEntry → World → Prop) (R : List Nat) (K : Act → World → Prop) : Tree → Act → World → Prop
  | .done, a, w => K a w
  | .calms l σ, a, w => wpList P ops (Exit.then (fun a w => PlanP P ops I X R K σ a w) fun _ _ _ => False) (calmRow ops l) a w
  | .read i σ, a, w => match ops[i]? with | some o => ∃ v, YieldsI P ops I o v a ∧ PlanP P ops I X R K σ (a.put o.dst v) w | none => False
  | .act i σ, a, w => match ops[i]? with | some o => wpList P ops (Exit.then (owes ops I R i (fun a w => PlanP P ops I X R K σ a w)) (thr X)) [o] a w | none => False
  | .fork i σ j τ, a, w => (match ops[i]? with | some o => wpList P ops (Exit.then (owes ops I R i (fun a w => PlanP P ops I X R K σ a w)) (thr X)) [o] a w | none => False) ∧
    (match ops[j]? with | some o => wpList P ops (Exit.then (owes ops I R j (fun a w => PlanP P ops I X R K τ a w)) (thr X)) [o] a w | none => False)
  | .fork3 i σ j τ k υ, a, w => (match ops[i]? with | some o => wpList P ops (Exit.then (owes ops I R i (fun a w => PlanP P ops I X R K σ a w)) (thr X)) [o] a w | none => False) ∧ (match ops[j]? with | some o => wpList P ops (Exit.then (owes ops I R j (fun a w => PlanP P ops I X R K τ a w)) (thr X)) [o] a w | none => False) ∧ (match ops[k]? with | some o => wpList P ops (Exit.then (owes ops I R k (fun a w => PlanP P ops I X R K υ a w)) (thr X)) [o] a w | none => False)
theorem wpAnyI_calmsP {R : List Nat} (hsel : Region.noSelect ops = true) {K : Act → World → Prop} {fuel : Nat} : ∀ (l : List Nat) (listed : Array Bool) (a : Act) (w : World), Down ops listed → (opened R listed → I w) → calmFits P ops listed l = true →
    wpList P ops (Exit.then K fun _ _ _ => False) (calmRow ops l) a w → (∀ a, Down ops (taken listed l) → (opened R (taken listed l) → I w) → K a w → wpAnyI P ops (Exit.then (fun a w => Q .normal a w) (thr X)) I R fuel (taken listed l) a w) → wpAnyI P ops (Exit.then (fun a w => Q .normal a w) (thr X)) I R (fuel + l.length) listed a w
  | [], _, _, _, hD, hI, _, h, hk => hk _ hD hI h
  | i :: l, listed, a, w, hD, hI, hf, h, hk => by
    unfold calmFits at hf
    unfold calmRow at h
    cases ho : ops[i]? with
    | none => rw [ho] at hf; cases hf
    | some o =>
      rw [ho] at hf h
      simp only [Bool.and_eq_true] at hf h
      obtain ⟨⟨⟨hr, hfr⟩, hc⟩, hf2⟩ := hf
      have hr' : i ∈ Region.ready .any ops listed := by simpa using hr
      have hQo : ¬ LetsOut (Exit.then K fun _ _ _ => False) := fun ⟨_, _, h⟩ => h
      have go : ∀ v, Yields P ops o v a → wpList P ops (Exit.then K fun _ _ _ => False) (calmRow ops l) (a.put o.dst v) w → wpAnyI P ops (Exit.then (fun a w => Q .normal a w) (thr X)) I R (fuel + (i :: l).length) listed a w := fun v hy h2 =>
        wpAnyI_first (J := fun _ => True) ho (Region.noSelect_spec hsel) (fun c a w h => ⟨(put_defs a _ _).symm.trans h.1, h.2⟩) (fun _ _ _ _ => trivial) (fuel + l.length) listed a w hD hI (Region.free_spec ho hfr) hr'
          (hy.imp (fun h => ⟨h.1, fun w _ => h.2 w⟩) id) (wpAnyI_calmsP hsel l (listed.setIfInBounds i true) (a.put o.dst v) w (down_ready hD hr') (fun h => hI (opened_less h)) hf2 h2 hk)
      by_cases hw : Region.wanted o (yielded ops a.tmps) = true
      · obtain ⟨hn, h⟩ := chk_list hQo hw _ h
        unfold wpList at h
        rw [if_pos hw] at h
        rcases h with h | ⟨_, h⟩
        · unfold Oper.wp at h
          rcases calmX_run hc a.eval hn with ⟨v, hv⟩ | hv
          · rw [hv w] at h
            exact go v (.inl ⟨hw, hv⟩) h
          · obtain ⟨e, w', he⟩ := hv w
            rw [he] at h
            cases e <;> exact h.elim
        · exact absurd h hQo
      · have h := chk_skip hw _ h
        unfold wpList at h
        rw [if_neg hw] at h
        exact go undef (.inr ⟨by simpa using hw, rfl⟩) h

/-- one of those that come up, acting -/
theorem wpAnyI_stepP {R : List Nat} {K : Act → World → Prop} {i fuel : Nat} {o : Oper} {listed : Array Bool} {a : Act} {w : World} (ho : ops[i]? = some o) (hD : Down ops listed) (hr' : i ∈ Region.ready .any ops listed)
    (h : wpList P ops (Exit.then (owes ops I R i K) (thr X)) [o] a w)
    (hk : ∀ a' w', (opened R (listed.setIfInBounds i true) → I w') → K a' w' → wpAnyI P ops (Exit.then (fun a w => Q .normal a w) (thr X)) I R fuel (listed.setIfInBounds i true) a' w') :
    wpOp P ops (Exit.then (fun a w => Q .normal a w) (thr X)) i (fun a' w' => (needI ops R i = true → I w → I w') ∧ wpAnyI P ops (Exit.then (fun a w => Q .normal a w) (thr X)) I R fuel (listed.setIfInBounds i true) a' w') a w := by
  have key : ∀ a' w', owes ops I R i K a' w' → (needI ops R i = true → I w → I w') ∧ wpAnyI P ops (Exit.then (fun a w => Q .normal a w) (thr X)) I R fuel (listed.setIfInBounds i true) a' w' := fun a' w' h => by
    unfold owes at h
    cases hn : needI ops R i with
    | true =>
      rw [hn] at h
      exact ⟨fun _ _ => h.1, hk a' w' (fun _ => h.1) h.2⟩
    | false =>
      rw [hn] at h
      exact ⟨fun h => absurd h (by decide), hk a' w' (fun ho => absurd (opened_less ho) (ready_closed hD hr' hn)) h⟩
  unfold wpOp
  rw [ho]
  unfold wpList at h
  simp only
  split
  · rename_i hw
    rw [if_pos hw] at h
    refine .inl ?_
    rcases h with h | ⟨_, _, _, h⟩
    · refine Oper.wp_mono (fun a w h => key a w h) ?_
      unfold Oper.wp at h ⊢
      generalize (execOp a.eval o).run P w = r at *
      cases r with
      | ok n w' =>
        cases n <;> simp only [Oper.upon] at h ⊢ <;> first | exact h | (exact Calls.mono h fun e w'' he => by cases e <;> exact he) | (exact Rows.mono h fun _ _ he => he)
      | halt x w' => cases x <;> simp only [Oper.upon] at h ⊢ <;> exact h
    · exact h.elim
  · rename_i hw
    rw [if_neg hw] at h
    exact key _ _ h

theorem wpAnyI_planP {R : List Nat} (hsel : Region.noSelect ops = true) : ∀ (σ : Tree) (listed : Array Bool) (a : Act) (w : World), Down ops listed → (opened R listed → I w) → planFits P ops R listed σ = true →
    PlanP P ops I X R (fun a w => Q .normal a w) σ a w → wpAnyI P ops (Exit.then (fun a w => Q .normal a w) (thr X)) I R (planLen σ) listed a w
  | .done, listed, a, w, _, _, hf, h => by
    unfold planFits at hf
    exact ⟨List.isEmpty_iff.1 hf, h⟩
  | .calms l σ, listed, a, w, hD, hI, hf, h => by
    unfold planFits at hf
    rw [Bool.and_eq_true] at hf
    exact wpAnyI_calmsP hsel l listed a w hD hI hf.1 h fun a hD hI h => wpAnyI_planP hsel σ _ a w hD hI hf.2 h
  | .read i σ, listed, a, w, hD, hI, hf, h => by
    unfold planFits at hf
    simp only [Bool.and_eq_true] at hf
    obtain ⟨⟨⟨hR, hr⟩, hfr⟩, hf2⟩ := hf
    have hr' : i ∈ Region.ready .any ops listed := by simpa using hr
    have hR' : i ∈ R := by simpa using hR
    unfold PlanP at h
    split at h
    · rename_i o ho
      obtain ⟨v, hy, h⟩ := h
      exact wpAnyI_first ho (Region.noSelect_spec hsel) (fun c a w h => ⟨(put_defs a _ _).symm.trans h.1, h.2⟩) (fun listed w hl h => h ⟨i, hR', hl⟩) _ listed a w hD hI (Region.free_spec ho hfr) hr' hy (wpAnyI_planP hsel σ _ _ w (down_ready hD hr') (fun h => hI (opened_less h)) hf2 h)
    · exact h.elim
  | .act i σ, listed, a, w, hD, hI, hf, h => by
    unfold planFits at hf
    simp only [Bool.and_eq_true, beq_iff_eq] at hf
    obtain ⟨hr, hf2⟩ := hf
    unfold PlanP at h
    split at h
    · rename_i o ho
      have hr' : i ∈ Region.ready .any ops listed := by rw [hr]; simp
      refine ⟨fun h0 => (by rw [hr] at h0; cases h0), fun j hj => ?_⟩
      rw [hr, List.mem_singleton] at hj
      subst hj
      exact wpAnyI_stepP ho hD hr' h fun a' w' hI h => wpAnyI_planP hsel σ _ a' w' (down_ready hD hr') hI hf2 h
    · exact h.elim
  | .fork i σ j τ, listed, a, w, hD, hI, hf, h => by
    unfold planFits at hf
    simp only [Bool.and_eq_true, beq_iff_eq] at hf
    obtain ⟨⟨⟨hr, hf2⟩, hf3⟩, hlen⟩ := hf
    unfold PlanP at h
    obtain ⟨h1, h2⟩ := h
    refine ⟨fun h0 => (by rw [hr] at h0; cases h0), fun k hk => ?_⟩
    have hk' := hk
    rw [hr] at hk
    simp only [List.mem_cons, List.not_mem_nil, or_false] at hk
    rcases hk with rfl | rfl
    · split at h1
      · rename_i o ho
        exact wpAnyI_stepP ho hD hk' h1 fun a' w' hI h => wpAnyI_planP hsel σ _ a' w' (down_ready hD hk') hI hf2 h
      · exact h1.elim
    · split at h2
      · rename_i o ho
        rw [← hlen]
        exact wpAnyI_stepP ho hD hk' h2 fun a' w' hI h => wpAnyI_planP hsel τ _ a' w' (down_ready hD hk') hI hf3 h
      · exact h2.elim
  | .fork3 i σ j τ k υ, listed, a, w, hD, hI, hf, h => by
    unfold planFits at hf
    simp only [Bool.and_eq_true, beq_iff_eq] at hf
    obtain ⟨⟨⟨⟨⟨hr, hf2⟩, hf3⟩, hf4⟩, hlen⟩, hlen2⟩ := hf
    unfold PlanP at h
    obtain ⟨h1, h2, h3⟩ := h
    refine ⟨fun h0 => (by rw [hr] at h0; cases h0), fun x hx => ?_⟩
    have hx' := hx
    rw [hr] at hx
    simp only [List.mem_cons, List.not_mem_nil, or_false] at hx
    rcases hx with rfl | rfl | rfl
    · split at h1
      · rename_i o ho
        exact wpAnyI_stepP ho hD hx' h1 fun a' w' hI h => wpAnyI_planP hsel σ _ a' w' (down_ready hD hx') hI hf2 h
      · exact h1.elim
    · split at h2
      · rename_i o ho
        rw [← hlen]
        exact wpAnyI_stepP ho hD hx' h2 fun a' w' hI h => wpAnyI_planP hsel τ _ a' w' (down_ready hD hx') hI hf3 h
      · exact h2.elim
    · split at h3
      · rename_i o ho
        rw [← hlen2]
        exact wpAnyI_stepP ho hD hx' h3 fun a' w' hI h => wpAnyI_planP hsel υ _ a' w' (down_ready hD hx') hI hf4 h
      · exact h3.elim

/-- THE LAW: a region that draws its order, walked by a plan, which may be a tree -/
theorem wp_region_treeP {id : Nat} {a : Act} {w : World} (I : World → Prop) (σ : Tree) (hm : P.follows .mixedOrders = true) (hs : planLen σ = ops.size) (hsel : Region.noSelect ops = true)
    (hf : planFits P ops (readsOf σ) (Array.replicate ops.size false) σ = true) (hX : ∀ c a w, a.defers = [] → X c w → Q (.panic c) a w) (hI : I w.drew) (h : PlanP P ops I X (readsOf σ) (fun a w => Q .normal a w) σ a w.drew) : (Code.region id ops true).wp P Q a w :=
  Code.wp_mono (Q := Exit.then (fun a w => Q .normal a w) (thr X)) (fun e a w he => by
    cases e <;> first | exact he | exact he.elim | exact hX _ _ _ he.1 he.2) (wp_region_any hm (by
    rw [← hs]
    exact wpAnyI.to _ _ _ _ (wpAnyI_planP hsel σ _ a _ (fun k o _ hk => by
      rcases Nat.lt_or_ge k ops.size with h' | h'
      · simp [hs, h'] at hk
      · simp [hs, h'] at hk) (fun _ => hI) (by rw [hs]; exact hf) h)))
theorem wp_region_planP {id : Nat} {a : Act} {w : World} (I : World → Prop) (σ : List Leg) (hm : P.follows .mixedOrders = true) (hs : planLen (row σ .done) = ops.size) (hsel : Region.noSelect ops = true)
    (hf : planFits P ops (readsOf (row σ .done)) (Array.replicate ops.size false) (row σ .done) = true) (hX : ∀ c a w, a.defers = [] → X c w → Q (.panic c) a w) (hI : I w.drew) (h : PlanP P ops I X (readsOf (row σ .done)) (fun a w => Q .normal a w) (row σ .done) a w.drew) : (Code.region id ops true).wp P Q a w :=
  wp_region_treeP I (row σ .done) hm hs hsel hf hX hI h

/-! ### a plan's steps, one by one -/
variable {K : Act → World → Prop} {R : List Nat} {σ τ : Tree} {a : Act} {w : World}
theorem plan_endP (h : K a w) : PlanP P ops I X R K .done a w := h
theorem plan_calmsP {l : List Nat} {r : List Oper} (hl : calmRow ops l = r) (h : wpList P ops (Exit.then (fun a w => PlanP P ops I X R K σ a w) fun _ _ _ => False) r a w) : PlanP P ops I X R K (.calms l σ) a w := by subst hl; exact h
theorem wpOne_monoP {K K' : Act → World → Prop} {o : Oper} (hk : ∀ a w, K a w → K' a w) (h : wpList P ops (Exit.then K (thr X)) [o] a w) : wpList P ops (Exit.then K' (thr X)) [o] a w := by
  unfold wpList at h ⊢
  split at h
  · rename_i hw
    rw [if_pos hw]
    rcases h with h | ⟨_, _, _, h⟩
    · refine .inl (Oper.wp_mono (fun a w h => hk a w h) (show Oper.wp P o a w K (Exit.then K' (thr X)) from ?_))
      unfold Oper.wp at h ⊢
      generalize (execOp a.eval o).run P w = r at *
      cases r with
      | ok n w' =>
        cases n <;> simp only [Oper.upon] at h ⊢ <;> first | exact h | (exact Calls.mono h fun e w'' he => by cases e <;> exact he) | (exact Rows.mono h fun _ _ he => he)
      | halt x w' => cases x <;> simp only [Oper.upon] at h ⊢ <;> exact h
    · exact h.elim
  · rename_i hw
    rw [if_neg hw]
    exact hk _ _ h
theorem plan_actP {i : Nat} {o : Oper} (ho : ops[i]? = some o) (h : wpList P ops (Exit.then (fun a w => I w ∧ PlanP P ops I X R K σ a w) (thr X)) [o] a w) : PlanP P ops I X R K (.act i σ) a w := by
  unfold PlanP owes; rw [ho]
  cases hn : needI ops R i
  · exact wpOne_monoP (fun _ _ h => h.2) h
  · exact h
/-- an act behind all reads -/
theorem plan_lastP {i : Nat} {o : Oper} (ho : ops[i]? = some o) (hn : needI ops R i = false) (h : wpList P ops (Exit.then (fun a w => PlanP P ops I X R K σ a w) (thr X)) [o] a w) : PlanP P ops I X R K (.act i σ) a w := by
  unfold PlanP owes; rw [ho, hn]; exact h
/-- two come up: whichever goes first -/
theorem plan_forkP {i j : Nat} {o o' : Oper} (ho : ops[i]? = some o) (ho' : ops[j]? = some o') (h : wpList P ops (Exit.then (fun a w => I w ∧ PlanP P ops I X R K σ a w) (thr X)) [o] a w)
    (h' : wpList P ops (Exit.then (fun a w => I w ∧ PlanP P ops I X R K τ a w) (thr X)) [o'] a w) : PlanP P ops I X R K (.fork i σ j τ) a w := by
  unfold PlanP owes; rw [ho, ho']
  constructor
  · cases hn : needI ops R i
    · exact wpOne_monoP (fun _ _ h => h.2) h
    · exact h
  · cases hn : needI ops R j
    · exact wpOne_monoP (fun _ _ h => h.2) h'
    · exact h'
/-- the same, where no read is still to come -/
theorem plan_fork'P {i j : Nat} {o o' : Oper} (ho : ops[i]? = some o) (ho' : ops[j]? = some o') (hn : needI ops R i = false) (hn' : needI ops R j = false) (h : wpList P ops (Exit.then (fun a w => PlanP P ops I X R K σ a w) (thr X)) [o] a w)
    (h' : wpList P ops (Exit.then (fun a w => PlanP P ops I X R K τ a w) (thr X)) [o'] a w) : PlanP P ops I X R K (.fork i σ j τ) a w := by
  unfold PlanP owes; rw [ho, ho', hn, hn']
  exact ⟨h, h'⟩
/-- three come up, no read is still to come -/
theorem plan_fork3'P {υ : Tree} {i j k : Nat} {o o' o'' : Oper} (ho : ops[i]? = some o) (ho' : ops[j]? = some o') (ho'' : ops[k]? = some o'') (hn : needI ops R i = false) (hn' : needI ops R j = false) (hn'' : needI ops R k = false)
    (h : wpList P ops (Exit.then (fun a w => PlanP P ops I X R K σ a w) (thr X)) [o] a w) (h' : wpList P ops (Exit.then (fun a w => PlanP P ops I X R K τ a w) (thr X)) [o'] a w)
    (h'' : wpList P ops (Exit.then (fun a w => PlanP P ops I X R K υ a w) (thr X)) [o''] a w) : PlanP P ops I X R K (.fork3 i σ j τ k υ) a w := by
  unfold PlanP owes; rw [ho, ho', ho'', hn, hn', hn'']
  exact ⟨h, h', h''⟩
theorem plan_fork3P {υ : Tree} {i j k : Nat} {o o' o'' : Oper} (ho : ops[i]? = some o) (ho' : ops[j]? = some o') (ho'' : ops[k]? = some o'')
    (h : wpList P ops (Exit.then (fun a w => I w ∧ PlanP P ops I X R K σ a w) (thr X)) [o] a w) (h' : wpList P ops (Exit.then (fun a w => I w ∧ PlanP P ops I X R K τ a w) (thr X)) [o'] a w)
    (h'' : wpList P ops (Exit.then (fun a w => I w ∧ PlanP P ops I X R K υ a w) (thr X)) [o''] a w) : PlanP P ops I X R K (.fork3 i σ j τ k υ) a w := by
  unfold PlanP owes; rw [ho, ho', ho'']
  refine ⟨?_, ?_, ?_⟩
  · cases hn : needI ops R i
    · exact wpOne_monoP (fun _ _ h => h.2) h
    · exact h
  · cases hn : needI ops R j
    · exact wpOne_monoP (fun _ _ h => h.2) h'
    · exact h'
  · cases hn : needI ops R k
    · exact wpOne_monoP (fun _ _ h => h.2) h''
    · exact h''
/-- behind an act that owes nothing -/
theorem plan_doneP (h : PlanP P ops I X R K σ a w) : wpList P ops (Exit.then (fun a w => PlanP P ops I X R K σ a w) (thr X)) [] a w := h
/-- behind an act -/
theorem plan_nextP (hI : I w) (h : PlanP P ops I X R K σ a w) : wpList P ops (Exit.then (fun a w => I w ∧ PlanP P ops I X R K σ a w) (thr X)) [] a w := ⟨hI, h⟩
theorem plan_readP {i : Nat} {o : Oper} (ho : ops[i]? = some o) (v : Value) (hw : Region.wanted o (yielded ops a.tmps) = true) (hy : ∀ w, I w → (execOp a.eval o).run P w = .ok (.value v) w) (h : PlanP P ops I X R K σ (a.put o.dst v) w) : PlanP P ops I X R K (.read i σ) a w := by
  unfold PlanP; rw [ho]; exact ⟨v, .inl ⟨hw, hy⟩, h⟩
theorem plan_skipP {i : Nat} {o : Oper} (ho : ops[i]? = some o) (hw : Region.wanted o (yielded ops a.tmps) = false) (h : PlanP P ops I X R K σ (a.put o.dst undef) w) : PlanP P ops I X R K (.read i σ) a w := by
  unfold PlanP; rw [ho]; exact ⟨undef, .inr ⟨hw, rfl⟩, h⟩
end
end Go.Proofs.Ytkkhojealihghaa
