/- Records of steps, plainly; a map of rows of locs in memory. -/
import Derived.Test.YtnkkieiofpplgaaLkTwo
import Derived.Test.YtnkkieiofpplgaaLkIs
import Derived.Test.YtnkkieiofpplgaaLkPut
namespace Go.Proofs.Ytnkkieiofpplgaa
open Go.RowKit
open Go.ChangeMaps (setBlock)

/-- a step: which key, how far above, gone -/
structure Stp where
  k : UInt8
  a : UInt8
  gone : Bool
def stC (s : Stp) : List Value := [.int .u8 (s.k.toNat : Int), .int .u8 (s.a.toNat : Int), .bool s.gone]
def stCells (l : List Stp) : List Value := l.flatMap stC
def chS (s : Stp) : UInt8 := UInt8.ofNat (97 + s.k.toNat % 8)
def locI (i : Nat) : Nat × Nat := (1 + i / 10, 16 + i % 10 * 30)
def nextR (d : List LR) (s : Stp) : LR := ⟨locI d.length, seqOf d + (1 + s.a.toNat), if s.gone then 2 else 1, chS s, ((locsOf d (chS s)).getLast?).getD (0, 0)⟩
def rowsR (l : List Stp) : List LR := l.foldl (fun d s => d ++ [nextR d s]) []
theorem rowsR_snoc (l : List Stp) (s : Stp) : rowsR (l ++ [s]) = rowsR l ++ [nextR (rowsR l) s] := by unfold rowsR; rw [List.foldl_append]; rfl
theorem rowsR_len (l : List Stp) : (rowsR l).length = l.length := by
  have h : ∀ (l : List Stp) (d : List LR), (l.foldl (fun d s => d ++ [nextR d s]) d).length = d.length + l.length := by
    intro l
    induction l with
    | nil => intro d; rfl
    | cons s r ih => intro d; rw [List.foldl_cons, ih]; simp; omega
  unfold rowsR
  rw [h]
  simp

/-! ### a map whose values are rows of locs -/
theorem u8_keyed : Maps.Keyed Try.prog 5 := Maps.int_keyed Try.underlying5
def u8V (c : UInt8) : Value := .int .u8 (c.toNat : Int)
theorem u8V_inj (x y : UInt8) (_ : True) (_ : True) (h : u8V x = u8V y) : x = y := by
  unfold u8V at h
  injection h with _ h
  exact UInt8.toNat_inj.1 (by exact_mod_cast h)
theorem u8_key (c : UInt8) : ∃ kl, keyOf Try.prog 5 (u8V c) = some kl := by
  have := c.toNat_lt
  refine ⟨.int .u8 (c.toNat : Int), ?_⟩
  unfold keyOf u8V
  simp only [Try.underlying5]
  unfold mapKey
  simp only [Try.underlying5]
  rw [if_pos]
  refine ⟨trivial, ?_⟩
  simp [Lit.wf, IntKind.min, IntKind.max, IntKind.bits, IntKind.signed]
  omega
/-- the map at block b, its rows laid from block B on, apart -/
structure By (w : World) (B b : Nat) (D : List (UInt8 × (Value × List (Nat × Nat)))) : Prop where
  lo : B ≤ b
  map : Mt Try.prog 5 w b (fun _ => True) u8V (fun p => p.1) D
  own : ∀ p ∈ D, Ow w B 34 2 p.2.1 p.2.2.length (lcs p.2.2)
  apart : ∀ p ∈ D, ∀ p' ∈ D, p.1 ≠ p'.1 → ∀ j, p.2.1.ownBlock = some j → p'.2.1.ownBlock ≠ some j
  ne : ∀ p ∈ D, p.2.2 ≠ []
section
variable {w w' : World} {B b : Nat} {D : List (UInt8 × (Value × List (Nat × Nat)))}
/-- a key's row: its value, what it holds -/
def curD (D : List (UInt8 × (Value × List (Nat × Nat)))) (c : UInt8) : Value × List (Nat × Nat) := (mget D c).getD (.slice none 0 0, [])
theorem By.kp {s : List (Option Nat)} (h : By w B b D) (k : Kp s w w') (hb : some b ∉ s) (hn : ∀ p ∈ D, ∀ j, p.2.1.ownBlock = some j → some j ∉ s) : By w' B b D :=
  ⟨h.lo, h.map.kp k hb, fun p hp => (h.own p hp).kp k (hn p hp), h.apart, h.ne⟩
theorem By.after (h : By w B b D) (hb : Below w.heap.size w w') : By w' B b D := h.kp (s := []) (Kp.of_new hb) (by simp) fun _ _ _ _ => by simp
theorem By.cur (h : By w B b D) (c : UInt8) : Ow w B 34 2 (curD D c).1 (curD D c).2.length (lcs (curD D c).2) := by
  unfold curD
  cases hg : mget D c with
  | none => exact World.ownsRow_nil _ _ _ _
  | some p => exact h.own (c, p) (mget_some hg)
theorem By.look (h : By w B b D) (c : UInt8) : (Instr.lookup 24 (.map (some b)) (u8V c) false).run Try.prog w = .ok (curD D c).1 w := by
  have hz := (zero_of_info (P := Try.prog) (t := 47) (n := 1) (v := .slice none 0 0) (by kernel_rfl)).1 w
  have := h.map.look u8V_inj u8_keyed Try.underlying24 hz (a := c) trivial (u8_key c).choose_spec false
  rw [this]
  unfold curD
  cases mget D c <;> rfl
theorem By.cur_apart (h : By w B b D) {c : UInt8} {p : UInt8 × (Value × List (Nat × Nat))} (hp : p ∈ D) (hc : p.1 ≠ c) {j : Nat} (hj : p.2.1.ownBlock = some j) : (curD D c).1.ownBlock ≠ some j := by
  unfold curD
  cases hg : mget D c with
  | none => intro e; cases e
  | some r => exact h.apart p hp (c, r) (mget_some hg) hc j hj
theorem By.put (h : By w B b D) (c : UInt8) (a : Nat × Nat) {v' : Value} (hg : w.grownBy w' (curD D c).1.ownBlock) (ho : Ow w' B 34 2 v' ((curD D c).2.length + 1) (lcs (curD D c).2 ++ [.int .u32 (a.1 : Int), .int .u32 (a.2 : Int)])) (hx : ∀ j, v'.ownBlock = some j → (curD D c).1.ownBlock = some j ∨ w.heap.size ≤ j) :
    ∃ o, (Instr.mapUpdate 24 (.map (some b)) (u8V c) v').run Try.prog w' = .ok () (setBlock w' b o) ∧ By (setBlock w' b o) B b (mput c (v', (curD D c).2 ++ [a]) D) ∧ Kp [some b] w' (setBlock w' b o) := by
  have k1 := Kp.grown hg
  have m1 := h.map.kp k1 (by simpa using mp_own_ne h.map.1 (h.cur c))
  obtain ⟨o, hr, m2⟩ := m1.store u8V_inj u8_keyed Try.underlying24 (a := c) trivial (u8_key c).choose_spec (v', (curD D c).2 ++ [a])
  have k2 := Kp.setBlock w' b o
  have hown : ∀ p ∈ mput c (v', (curD D c).2 ++ [a]) D, Ow w' B 34 2 p.2.1 p.2.2.length (lcs p.2.2) := by
    rintro ⟨x, y⟩ hp
    rcases mem_mput.1 hp with ⟨rfl, rfl⟩ | ⟨hne, hp⟩
    · show Ow w' B _ 2 v' _ _
      rw [lcs_snoc, List.length_append]
      exact ho
    · exact (h.own _ hp).kp k1 fun j hj hm => h.cur_apart hp hne hj (List.mem_singleton.1 hm).symm
  refine ⟨o, hr, ⟨h.lo, m2, fun p hp => (hown p hp).kp k2 fun j hj hm => ?_, ?_, ?_⟩, k2⟩
  · have := mp_own_ne m1.1 (hown p hp)
    rw [hj] at this
    exact this (List.mem_singleton.1 hm).symm
  · rintro ⟨x, y⟩ hp ⟨x', y'⟩ hp' hne j hj he
    dsimp only at hne hj he
    rcases mem_mput.1 hp with ⟨rfl, rfl⟩ | ⟨hn1, hpD⟩
    · rcases mem_mput.1 hp' with ⟨rfl, rfl⟩ | ⟨hn2, hpD'⟩
      · exact hne rfl
      · rcases hx j hj with h1 | h1
        · exact h.cur_apart (p := (x', y')) hpD' hn2 he h1
        · have := Ow.hi (h.own (x', y') hpD') j he
          omega
    · rcases mem_mput.1 hp' with ⟨rfl, rfl⟩ | ⟨hn2, hpD'⟩
      · rcases hx j he with h1 | h1
        · exact h.cur_apart (p := (x, y)) hpD hn1 hj h1
        · have := Ow.hi (h.own (x, y) hpD) j hj
          omega
      · exact h.apart _ hpD _ hpD' hne j hj he
  · rintro ⟨x, y⟩ hp
    rcases mem_mput.1 hp with ⟨rfl, rfl⟩ | ⟨_, hpD⟩
    · simp
    · exact h.ne _ hpD
theorem By.new (w : World) : By (w.alloc (.map #[] 0)) w.heap.size w.heap.size [] := ⟨Nat.le_refl _, Mt.new w Try.prog 5, fun p hp => (by cases hp), fun p hp => (by cases hp), fun p hp => (by cases hp)⟩
/-- the map holds each key's locs -/
def Holds (D : List (UInt8 × (Value × List (Nat × Nat)))) (d : List LR) : Prop := ∀ c, (curD D c).2 = locsOf d c
theorem Holds.nil : Holds [] [] := fun _ => rfl
theorem Holds.put {d : List LR} (h : Holds D d) (r : LR) (v' : Value) : Holds (mput r.c (v', (curD D r.c).2 ++ [r.at_]) D) (d ++ [r]) := by
  intro c
  unfold curD
  rw [mget_put, locsOf_snoc]
  by_cases hc : c = r.c
  · subst hc
    rw [if_pos rfl, if_pos rfl]
    show (curD D r.c).2 ++ [r.at_] = _
    rw [h]
  · rw [if_neg hc, if_neg (fun e => hc e.symm)]
    exact h c
end
end Go.Proofs.Ytnkkieiofpplgaa
