/- A map whose values are rows of the call's own, apart: in memory, what is put into it. Plain laws, for every kind of key and element. -/
import Derived.Test.YtkkhojealihghaaRangeM
import Derived.Test.YtkkhojealihghaaOwn
namespace Go.Proofs.Ytkkhojealihghaa
open Go.RowKit
open Go.ChangeMaps (setBlock)
open Go.Maps (Keyed)

theorem mpo_ne {P : Program} {k : TypeId} {w : World} {b B n size : Nat} {e : TypeId} {v : Value} {xs : List Value} {L : List (Value × Value)} (hm : Mp P k w b L) (ho : Ow w B e size v n xs) : some b ≠ v.ownBlock := by
  obtain ⟨es, c, hb, _⟩ := hm
  rcases ho.2 with ⟨rfl, _⟩ | ⟨g, cap, cur, rfl, _, hh, _⟩
  · intro h; cases h
  · intro he
    injection he with he
    dsimp only at he
    subst he
    rw [hb] at hh
    cases hh
theorem mpb_ne {P : Program} {k t : TypeId} {w : World} {b g : Nat} {cs : Array Value} {L : List (Value × Value)} (hm : Mp P k w b L) (hq : Blk w g t cs) : b ≠ g := by
  obtain ⟨es, c, hb, _⟩ := hm
  intro e
  subst e
  unfold Blk at hq
  rw [hq] at hb
  cases hb
section
variable {α γ : Type}
/-- the map at block b, its rows laid from block B on, apart -/
structure ByK (P : Program) (k e : TypeId) (size : Nat) (Ok : α → Prop) (ek : α → Value) (f : γ → List Value) (w : World) (B b : Nat) (D : List (α × (Value × List γ))) : Prop where
  lo : B ≤ b
  map : Mt P k w b Ok ek (fun p => p.1) D
  own : ∀ p ∈ D, Ow w B e size p.2.1 p.2.2.length (p.2.2.flatMap f)
  apart : ∀ p ∈ D, ∀ p' ∈ D, p.1 ≠ p'.1 → ∀ j, p.2.1.ownBlock = some j → p'.2.1.ownBlock ≠ some j
variable {P : Program} {k e es t : TypeId} {size : Nat} {Ok : α → Prop} {ek : α → Value} {f : γ → List Value} {w w' : World} {B b : Nat} {D : List (α × (Value × List γ))}
theorem ByK.kp {s : List (Option Nat)} (h : ByK P k e size Ok ek f w B b D) (kk : Kp s w w') (hb : some b ∉ s) (hn : ∀ p ∈ D, ∀ j, p.2.1.ownBlock = some j → some j ∉ s) : ByK P k e size Ok ek f w' B b D :=
  ⟨h.lo, h.map.kp kk hb, fun p hp => (h.own p hp).kp kk (hn p hp), h.apart⟩
theorem ByK.after (h : ByK P k e size Ok ek f w B b D) (hb : Below w.heap.size w w') : ByK P k e size Ok ek f w' B b D := h.kp (s := []) (Kp.of_new hb) (by simp) fun _ _ _ _ => by simp
theorem ByK.low {B' : Nat} (h : ByK P k e size Ok ek f w B b D) (hb : B' ≤ B) : ByK P k e size Ok ek f w B' b D := ⟨Nat.le_trans hb h.lo, h.map, fun p hp => own_low (h.own p hp) hb, h.apart⟩
theorem ByK.grown {base n size' : Nat} {e' : TypeId} {v : Value} {xs : List Value} (h : ByK P k e size Ok ek f w B b D) (ho : Ow w base e' size' v n xs) (hne : e ≠ e') (hg : w.grownBy w' v.ownBlock) : ByK P k e size Ok ek f w' B b D := by
  refine h.kp (Kp.grown hg) (fun hm => mpo_ne h.map.1 ho (List.mem_singleton.1 hm)) fun p hp j hj hm => ?_
  have h1 := List.mem_singleton.1 hm
  rcases own_own_ne ho (h.own p hp) hne with h2 | h2
  · rw [h2] at hj; cases hj
  · exact h2 (hj.trans h1)
theorem ByK.new (w : World) : ByK P k e size Ok ek f (w.alloc (.map #[] 0)) w.heap.size w.heap.size ([] : List (α × (Value × List γ))) := ⟨Nat.le_refl _, Mt.new w P k, fun p hp => (by cases hp), fun p hp => (by cases hp)⟩
end
section
variable {α γ : Type} [DecidableEq α]
/-- a key's row: its value, what it holds -/
def curK (D : List (α × (Value × List γ))) (c : α) : Value × List γ := (mget D c).getD (.slice none 0 0, [])
variable {P : Program} {k e es t : TypeId} {size : Nat} {Ok : α → Prop} {ek : α → Value} {f : γ → List Value} {w w' : World} {B b : Nat} {D : List (α × (Value × List γ))}
theorem ByK.cur (h : ByK P k e size Ok ek f w B b D) (c : α) : Ow w B e size (curK D c).1 (curK D c).2.length ((curK D c).2.flatMap f) := by
  unfold curK
  cases hg : mget D c with
  | none => exact World.ownsRow_nil _ _ _ _
  | some p => exact h.own (c, p) (mget_some hg)
theorem ByK.look (h : ByK P k e size Ok ek f w B b D) (hinj : ∀ x y, Ok x → Ok y → ek x = ek y → x = y) (K : Keyed P k) (ht : P.underlying t = some (.map k es)) (hz : ∀ W : World, (zeroValue es).run P W = .ok (.slice none 0 0) W) {c : α} (hc : Ok c) {kl : Lit} (hkey : keyOf P k (ek c) = some kl) :
    (Instr.lookup t (.map (some b)) (ek c) false).run P w = .ok (curK D c).1 w := by
  rw [h.map.look hinj K ht (hz w) hc hkey false]
  unfold curK
  cases mget D c <;> rfl
theorem ByK.cur_apart (h : ByK P k e size Ok ek f w B b D) {c : α} {p : α × (Value × List γ)} (hp : p ∈ D) (hc : p.1 ≠ c) {j : Nat} (hj : p.2.1.ownBlock = some j) : (curK D c).1.ownBlock ≠ some j := by
  unfold curK
  cases hg : mget D c with
  | none => intro e; cases e
  | some r => exact h.apart p hp (c, r) (mget_some hg) hc j hj
/-- what stands once a key's row has grown and been put -/
theorem ByK.put_aux (h : ByK P k e size Ok ek f w B b D) {c : α} {x : γ} {v' : Value} (hg : w.grownBy w' (curK D c).1.ownBlock) (ho : Ow w' B e size v' ((curK D c).2.length + 1) ((curK D c).2.flatMap f ++ f x)) (hx : ∀ j, v'.ownBlock = some j → (curK D c).1.ownBlock = some j ∨ w.heap.size ≤ j)
    {o : Obj} (m1 : Mp P k w' b (D.map fun p => (ek p.1, p.2.1))) (m2 : Mt P k (setBlock w' b o) b Ok ek (fun p => p.1) (mput c (v', (curK D c).2 ++ [x]) D)) : ByK P k e size Ok ek f (setBlock w' b o) B b (mput c (v', (curK D c).2 ++ [x]) D) := by
  have k1 := Kp.grown hg
  have k2 := Kp.setBlock w' b o
  have hown : ∀ p ∈ mput c (v', (curK D c).2 ++ [x]) D, Ow w' B e size p.2.1 p.2.2.length (p.2.2.flatMap f) := by
    rintro ⟨y, z⟩ hp
    rcases mem_mput.1 hp with ⟨rfl, rfl⟩ | ⟨hne, hp⟩
    · show Ow w' B _ size v' _ _
      rw [List.flatMap_append, List.length_append, List.flatMap_singleton]
      exact ho
    · exact (h.own _ hp).kp k1 fun j hj hm => h.cur_apart hp hne hj (List.mem_singleton.1 hm).symm
  refine ⟨h.lo, m2, fun p hp => (hown p hp).kp k2 fun j hj hm => ?_, ?_⟩
  · have := mpo_ne m1 (hown p hp)
    rw [hj] at this
    exact this (List.mem_singleton.1 hm).symm
  · rintro ⟨y, z⟩ hp ⟨y', z'⟩ hp' hne j hj he
    dsimp only at hne hj he
    rcases mem_mput.1 hp with ⟨rfl, rfl⟩ | ⟨hn1, hpD⟩
    · rcases mem_mput.1 hp' with ⟨rfl, rfl⟩ | ⟨hn2, hpD'⟩
      · exact hne rfl
      · rcases hx j hj with h1 | h1
        · exact h.cur_apart (p := (y', z')) hpD' hn2 he h1
        · have := Ow.hi (h.own (y', z') hpD') j he
          omega
    · rcases mem_mput.1 hp' with ⟨rfl, rfl⟩ | ⟨hn2, hpD'⟩
      · rcases hx j he with h1 | h1
        · exact h.cur_apart (p := (y, z)) hpD hn1 hj h1
        · have := Ow.hi (h.own (y, z) hpD) j hj
          omega
      · exact h.apart _ hpD _ hpD' hne j hj he
theorem ByK.put (h : ByK P k e size Ok ek f w B b D) (hinj : ∀ x y, Ok x → Ok y → ek x = ek y → x = y) (K : Keyed P k) (ht : P.underlying t = some (.map k es)) {c : α} (hc : Ok c) {kl : Lit} (hkey : keyOf P k (ek c) = some kl) (x : γ)
    {v' : Value} (hg : w.grownBy w' (curK D c).1.ownBlock) (ho : Ow w' B e size v' ((curK D c).2.length + 1) ((curK D c).2.flatMap f ++ f x)) (hx : ∀ j, v'.ownBlock = some j → (curK D c).1.ownBlock = some j ∨ w.heap.size ≤ j) :
    ∃ o, (Instr.mapUpdate t (.map (some b)) (ek c) v').run P w' = .ok () (setBlock w' b o) ∧ ByK P k e size Ok ek f (setBlock w' b o) B b (mput c (v', (curK D c).2 ++ [x]) D) ∧ Kp [some b] w' (setBlock w' b o) := by
  have m1 := h.map.kp (Kp.grown hg) (by simpa using mpo_ne h.map.1 (h.cur c))
  obtain ⟨o, hr, m2⟩ := m1.store hinj K ht (a := c) hc hkey (v', (curK D c).2 ++ [x])
  exact ⟨o, hr, h.put_aux hg ho hx m1.1 m2, Kp.setBlock w' b o⟩
/-- the same, by an entry: what it holds, then what is stored there -/
theorem ByK.entry (h : ByK P k e size Ok ek f w B b D) (hinj : ∀ x y, Ok x → Ok y → ek x = ek y → x = y) (K : Keyed P k) (ht : P.underlying t = some (.map k es)) (hz : ∀ W : World, (zeroValue es).run P W = .ok (.slice none 0 0) W) {c : α} (hc : Ok c) {kl : Lit} (hkey : keyOf P k (ek c) = some kl) (x : γ) :
    ∃ (o : Obj) (st : Nat), (Instr.mapEntry t (.map (some b)) (ek c)).run P w = .ok (.tuple #[(curK D c).1, .int .i64 (st : Int)]) (setBlock w b o) ∧ Kp [some b] w (setBlock w b o) ∧ Ow (setBlock w b o) B e size (curK D c).1 (curK D c).2.length ((curK D c).2.flatMap f) ∧
      ∀ w' v', (setBlock w b o).grownBy w' (curK D c).1.ownBlock → Ow w' B e size v' ((curK D c).2.length + 1) ((curK D c).2.flatMap f ++ f x) → (∀ j, v'.ownBlock = some j → (curK D c).1.ownBlock = some j ∨ w.heap.size ≤ j) →
        ∃ o2, (Instr.entryStore t (.map (some b)) (.int .i64 (st : Int)) v').run P w' = .ok () (setBlock w' b o2) ∧ ByK P k e size Ok ek f (setBlock w' b o2) B b (mput c (v', (curK D c).2 ++ [x]) D) ∧ Kp [some b] w' (setBlock w' b o2) := by
  obtain ⟨o, st, hr, hlt, hlk, hs⟩ := h.map.entry hinj K ht hz (a := c) hc hkey
  have kb := Kp.setBlock w b o
  have hkey2 : ∀ p ∈ D, ∀ j, p.2.1.ownBlock = some j → some j ∉ [some b] := fun p hp j hj hm => mpo_ne h.map.1 (h.own p hp) ((List.mem_singleton.1 hm).symm.trans hj.symm)
  have hcur2 : ∀ j, (curK D c).1.ownBlock = some j → some j ∉ [some b] := fun j hj hm => mpo_ne h.map.1 (h.cur c) ((List.mem_singleton.1 hm).symm.trans hj.symm)
  refine ⟨o, st, ?_, kb, (h.cur c).kp kb hcur2, fun w' v' hg ho hx => ?_⟩
  · rw [hr]
    unfold curK
    cases mget D c <;> rfl
  · have hne0 : some b ≠ (curK D c).1.ownBlock := mpo_ne h.map.1 (h.cur c)
    have hbo : w'.heap[b]? = some o := (hg.block b (by rw [setBlock_size]; exact hlt) hne0).trans (setBlock_heap hlt)
    obtain ⟨o2, hr2, m2⟩ := hs w' hbo (v', (curK D c).2 ++ [x])
    have k1 := Kp.grown hg
    have k2 := Kp.setBlock w' b o2
    have hown : ∀ p ∈ mput c (v', (curK D c).2 ++ [x]) D, Ow w' B e size p.2.1 p.2.2.length (p.2.2.flatMap f) := by
      rintro ⟨y, z⟩ hp
      rcases mem_mput.1 hp with ⟨rfl, rfl⟩ | ⟨hne, hp⟩
      · show Ow w' B _ size v' _ _
        rw [List.flatMap_append, List.length_append, List.flatMap_singleton]
        exact ho
      · exact ((h.own _ hp).kp kb (hkey2 _ hp)).kp k1 fun j hj hm => h.cur_apart hp hne hj (List.mem_singleton.1 hm).symm
    have hne2 : ∀ p ∈ mput c (v', (curK D c).2 ++ [x]) D, some b ≠ p.2.1.ownBlock := by
      rintro ⟨y, z⟩ hp he
      rcases mem_mput.1 hp with ⟨rfl, rfl⟩ | ⟨hne, hp⟩
      · rcases hx b he.symm with h1 | h1
        · exact mpo_ne h.map.1 (h.cur y) h1.symm
        · omega
      · exact mpo_ne h.map.1 (h.own _ hp) he
    refine ⟨o2, hr2, ⟨h.lo, m2, fun p hp => (hown p hp).kp k2 fun j hj hm => hne2 p hp ((List.mem_singleton.1 hm).symm.trans hj.symm), ?_⟩, k2⟩
    rintro ⟨y, z⟩ hp ⟨y', z'⟩ hp' hne j hj he
    dsimp only at hne hj he
    rcases mem_mput.1 hp with ⟨rfl, rfl⟩ | ⟨hn1, hpD⟩
    · rcases mem_mput.1 hp' with ⟨rfl, rfl⟩ | ⟨hn2, hpD'⟩
      · exact hne rfl
      · rcases hx j hj with h1 | h1
        · exact h.cur_apart (p := (y', z')) hpD' hn2 he h1
        · have := Ow.hi (h.own (y', z') hpD') j he
          omega
    · rcases mem_mput.1 hp' with ⟨rfl, rfl⟩ | ⟨hn2, hpD'⟩
      · rcases hx j he with h1 | h1
        · exact h.cur_apart (p := (y, z)) hpD hn1 hj h1
        · have := Ow.hi (h.own (y, z) hpD) j hj
          omega
      · exact h.apart _ hpD _ hpD' hne j hj he
theorem curK_put (c x : α) (r : Value × List γ) : curK (mput c r D) x = if x = c then r else curK D x := by
  unfold curK
  rw [mget_put]
  by_cases h : x = c
  · rw [if_pos h, if_pos h]; rfl
  · rw [if_neg h, if_neg h]
end
end Go.Proofs.Ytkkhojealihghaa
