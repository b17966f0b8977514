/- A range over an iterator that writes nothing: what a round keeps is told by a relation. Plain laws, no condition of their own. -/
import Derived.Test.YtkkhojealihghaaHash1
namespace Go.Proofs.Ytkkhojealihghaa
open Go.RowKit

variable {F : Fence} {n : Nat} {P : Program}
/-- an iterator that goes through all of it, as long as each round keeps Kp -/
def SeqK {α : Type} (F : Fence) (n : Nat) (P : Program) (gf : Nat) (lb : Array Value) (encs : α → Array Value) (xs : List α) (Kp : World → World → Prop) (w : World) : Prop :=
  ∀ (l : Nat) (J : List α → World → Prop) (W : World), Kp w W →
    (∀ pre x W1, J pre W1 → (pre ++ [x]) <+: xs → YieldAt F (n - 1) P l (encs x) W1 fun e W' => e = .returned (.bool true) ∧ J (pre ++ [x]) W' ∧ Kp W1 W') →
    J [] W → CallsIn F n P gf (#[.func (.yield l) #[] #[]] ++ lb) W fun e W' => (∃ v, e = .returned v) ∧ J xs W'

theorem wpIn_rangeK {α : Type} {g : Operand} {ps : Array Tmp} {assign body : Code} {Q : Exit → Act → World → Prop} {a : Act} {w : World}
    (hro : F.round = none) (h1 : 1 ≤ n) {gf : Nat} {lb : Array Value} (hg : a.eval g = .func (.func gf) #[] lb) (hF : F.fn gf) (eg : ∀ args w, (callFunc gf args).run P w = .ok (.enter gf args) w)
    {encs : α → Array Value} {xs : List α} {Kp : World → World → Prop} (hKt : ∀ {a b c : World}, Kp a b → Kp b c → Kp a c) (hKa : ∀ (A : World) (o : Obj), w.heap.size ≤ A.heap.size → Kp A (A.alloc o))
    (hKp : ∀ (A : World) (k : Nat) (o o' : Obj), w.heap.size ≤ k → A.heap[k]? = some o → o.isCells = false → Kp A (A.putObj k o'))
    (hseq : SeqK F (n - 1) P gf lb encs xs Kp w) (hps : ∀ x, (encs x).size = ps.size)
    (I : List α → World → Prop) (hIa : ∀ s A o, I s A → w.heap.size ≤ A.heap.size → I s (A.alloc o)) (hIp : ∀ s A k o o', I s A → w.heap.size ≤ k → A.heap[k]? = some o → o.isCells = false → I s (A.putObj k o')) (h0 : I [] w) (a₁ : α → Act)
    (hassign : ∀ (l : Nat) (x : α) (W : World) (K : Act → World → Prop), K (a₁ x) W →
      assign.wpIn (F.inRound l) (n - 1 - 1) P (Exit.then K (fun _ _ _ => False)) { tmps := (ps.zip (encs x)).foldl (fun t (p, v) => t.setIfInBounds p v) a.tmps, defers := [] } W)
    (hbody : ∀ (l : Nat) (pre : List α) (x : α) (W : World), I pre W → (pre ++ [x]) <+: xs →
      body.wpIn (F.inRound l) (n - 1 - 1) P (Exit.then (fun _ W' => KeepsOthers W W' ∧ Kp W W' ∧ I (pre ++ [x]) W') (fun _ _ _ => False)) (a₁ x) W)
    (hdone : ∀ (D : Nat) (W : World), w.heap.size ≤ D → I xs W → W.heap[D]? = some (.deferred (some [])) → Q .normal { a with defers := { target := .collected D, args := #[] } :: a.defers } W) :
    (Code.rangeFunc g ps assign body).wpIn F n P Q a w := by
  refine wpIn_rangeFunc fun fn hfn => ?_
  rw [hro]
  let R : LoopState → Loop := fun st => { state := st, pending := none, fn, tmps := a.tmps, params := ps, assign, body, defers := w.heap.size }
  let m := w.heap.size
  let J : List α → World → Prop := fun s W => I s W ∧ W.heap[m + 1]? = some (.loop (R .ready)) ∧ W.heap[m]? = some (.deferred (some []))
  have hw : Kp w ((w.alloc (.deferred (some []))).alloc (.loop (R .ready))) := hKt (hKa _ _ (Nat.le_refl _)) (hKa _ _ (by simp))
  have hJ0 : J [] ((w.alloc (.deferred (some []))).alloc (.loop (R .ready))) := by
    refine ⟨hIa _ _ _ (hIa _ _ _ h0 (Nat.le_refl _)) (by simp), ?_, (Below.heap_alloc _ _ _ (by simp [m])).trans (World.alloc_heap_new w _)⟩
    have := World.alloc_heap_new (w.alloc (.deferred (some []))) (.loop (R .ready))
    rwa [World.size_alloc] at this
  refine ⟨m + 1, [{ target := .collected m, args := #[] }], (w.alloc (.deferred (some []))).alloc (.loop (R .ready)), { target := .fn (.func gf) lb, args := #[.func (.yield (m + 1)) #[] #[]] }, (w.alloc (.deferred (some []))).alloc (.loop (R .ready)), gf,
    #[.func (.yield (m + 1)) #[] #[]] ++ lb, (w.alloc (.deferred (some []))).alloc (.loop (R .ready)), run_enterLoop_outer _ _ _ _ _, by simp only [resolve, hg]; simp [go_sem], fun f' hf' => by simp [Target.leads] at hf'; subst hf'; exact hF,
    by simp [invoke, go_sem, eg], fun _ => h1, ?_⟩
  refine (hseq (m + 1) J _ hw ?_ hJ0).mono ?_
  · rintro pre x W ⟨hi, hl, hk⟩ hpre
    have hlt := (Array.getElem?_eq_some_iff.1 hl).1
    refine ⟨fn, _, assign, body, run_yield hl (hps x), roundIn_of_wpIn hfn (hassign _ x W _ ⟨_, run_beginRound hl rfl, ?_⟩)⟩
    let W2 := W.putObj (m + 1) (.loop (R .busy))
    have hl2 : W2.heap[m + 1]? = some (.loop (R .busy)) := World.putObj_heap_same hlt
    have hk2 : W2.heap[m]? = some (.deferred (some [])) := (World.putObj_heap_other (by omega)).trans hk
    have hy2 : Kp W W2 := hKp _ _ _ _ (by omega) hl rfl
    refine wpIn_mono (hbody _ pre x W2 (hIp _ _ _ _ _ hi (by omega) hl rfl) hpre) fun e a3 W3 hp => ?_
    cases e with
    | normal =>
      obtain ⟨ko, ky, hi3⟩ := hp
      have hl3 := ko.same _ _ hl2 rfl
      have hk3 := ko.same _ _ hk2 rfl
      exact ⟨_, _, run_endRound none hl3, rfl, ⟨hIp _ _ _ _ _ hi3 (by omega) hl3 rfl, World.putObj_heap_same (Array.getElem?_eq_some_iff.1 hl3).1, (World.putObj_heap_other (by omega)).trans hk3⟩, hKt (hKt hy2 ky) (hKp _ _ _ _ (by omega) hl3 rfl)⟩
    | _ => exact hp.elim
  · rintro e W2 ⟨⟨v, rfl⟩, hi, hl, hk⟩
    exact ⟨none, _, run_endLoop hl (by simp [R]), hdone m _ (Nat.le_refl _) (hIp _ _ _ _ _ hi (by omega) hl rfl) ((World.putObj_heap_other (by omega)).trans hk)⟩
theorem kput_below {B k : Nat} {w A : World} {o o' : Obj} (h : Below B w A) (_hk : A.heap[k]? = some o) (hB : B ≤ k) : Below B w (A.putObj k o') :=
  h.trans ⟨rfl, rfl, rfl, by simp [World.putObj], fun j hj => World.putObj_heap_other (by omega)⟩
theorem Blk.kput {w : World} {g k : Nat} {t : TypeId} {cs : Array Value} {o o' : Obj} (h : Blk w g t cs) (hk : w.heap[k]? = some o) (ho : o.isCells = false) : Blk (w.putObj k o') g t cs := by
  refine (World.putObj_heap_other ?_).trans h
  intro e
  subst e
  unfold Blk at h
  rw [h] at hk
  injection hk with hk
  subst hk
  cases ho
theorem ws_prefix {l : List UInt8} {pre : List (Nat × Nat)} {x y : Nat} (h : (pre ++ [(x, y)]) <+: ws l) : x = pre.length ∧ y = wle ((l.drop (8 * x)).take 8) ∧ 8 * x < l.length := by
  obtain ⟨r, hr⟩ := h
  have h1 : (ws l)[pre.length]? = some (x, y) := by rw [← hr]; simp
  obtain ⟨hl, he⟩ := List.getElem?_eq_some_iff.1 h1
  have hl2 := hl
  rw [ws_len] at hl2
  simp only [ws, List.getElem_map, List.getElem_range, Prod.mk.injEq] at he
  obtain ⟨rfl, rfl⟩ := he
  exact ⟨rfl, rfl, by omega⟩
end Go.Proofs.Ytkkhojealihghaa
