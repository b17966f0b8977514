/- The document's way to read an edit, a place and an error at a time, comes to what is read. Plain laws. -/
import Derived.Test.YtedjolkkidciiaaEdR2
import Derived.Test.YtedjolkkidciiaaEd6
namespace Go.Proofs.Ytedjolkkidciiaa
open Go.RowKit

/-- what is read at a place comes to what a reader tells -/
def Sim {α : Type} (l : List UInt8) (x : Rdr α) (a : α) (at_ wr : Nat) : Prop :=
  match x with
  | .ok (v, r) => a = v ∧ wr = 0 ∧ r = l.drop at_ ∧ at_ ≤ l.length
  | .error e => wr = e ∧ ¬ e = 0
theorem num_sim {least most : Nat} {l : List UInt8} {at_ : Nat} (h : at_ ≤ l.length) : Sim l (rdNum least most (l.drop at_)) (numW least most l at_ 0).1 (numW least most l at_ 0).2.1 (numW least most l at_ 0).2.2 := by
  have hle := numW_le (least := least) (most := most) (wr := 0) h
  cases hx : rdNum least most (l.drop at_) with
  | ok p =>
    obtain ⟨x, r⟩ := p
    rw [numW_ok hx] at hle ⊢
    refine ⟨rfl, rfl, ?_, hle⟩
    rw [(rdNum_ok hx).2.2.2.2.1, List.drop_drop]
  | error e =>
    rw [numW_err hx]
    exact ⟨rfl, by have := rdNum_err hx; omega⟩
def seqW (k : Int) (l : List UInt8) (at_ wr : Nat) : Nat × Nat × Nat := if hasSeq k then numW 0 1099511627776 l at_ wr else (0, at_, wr)
/-- a name whose length is told -/
def takeW (l : List UInt8) (n at_ wr : Nat) : List UInt8 × Nat × Nat := if wr = 0 then (if l.length - at_ < n then ([], at_, 4) else ((l.drop at_).take n, at_ + n, 0)) else ([], at_, wr)
def nameW (k : Int) (l : List UInt8) (at_ wr : Nat) : List UInt8 × Nat × Nat :=
  if hasName k then takeW l (numW 1 32 l at_ wr).1 (numW 1 32 l at_ wr).2.1 (numW 1 32 l at_ wr).2.2 else ([], at_, wr)
def idW (k : Int) (l : List UInt8) (at_ wr : Nat) : Nat × Nat × Nat := if hasId k then numW 1 16777215 l at_ wr else (0, at_, wr)
def manyW (k : Int) (l : List UInt8) (at_ wr : Nat) : Nat × Nat × Nat := if k = 5 then (1, at_, wr) else if k = 6 then numW 0 200 l at_ wr else (0, at_, wr)
/-- first and last of a seal of so many -/
def endsW (l : List UInt8) (i z m at_ wr : Nat) : Sl × Nat × Nat :=
  if m = 0 then (⟨i, z, 0, 0, 0⟩, at_, wr) else
    (⟨i, z, m, (numW 1 1099511627776 l at_ wr).1, (numW 1 1099511627776 l at_ wr).1 + (numW (m - 1) (1099511627776 - (numW 1 1099511627776 l at_ wr).1) l (numW 1 1099511627776 l at_ wr).2.1 (numW 1 1099511627776 l at_ wr).2.2).1⟩,
      (numW (m - 1) (1099511627776 - (numW 1 1099511627776 l at_ wr).1) l (numW 1 1099511627776 l at_ wr).2.1 (numW 1 1099511627776 l at_ wr).2.2).2)
def manW (l : List UInt8) (i z at_ wr : Nat) : Sl × Nat × Nat := endsW l i z (numW 0 4294967295 l at_ wr).1 (numW 0 4294967295 l at_ wr).2.1 (numW 0 4294967295 l at_ wr).2.2
def sizW (l : List UInt8) (i at_ wr : Nat) : Sl × Nat × Nat := manW l i (numW 16 16777216 l at_ wr).1 (numW 16 16777216 l at_ wr).2.1 (numW 16 16777216 l at_ wr).2.2
def slW (last : Nat) (l : List UInt8) (at_ wr : Nat) : Sl × Nat × Nat := sizW l (numW (last + 1) 16777215 l at_ wr).1 (numW (last + 1) 16777215 l at_ wr).2.1 (numW (last + 1) 16777215 l at_ wr).2.2
def slsW : Nat → Nat → List UInt8 → Nat → Nat → List Sl × Nat × Nat
  | 0, _, _, at_, wr => ([], at_, wr)
  | n + 1, last, l, at_, wr => if wr = 0 then ((slW last l at_ wr).1 :: (slsW n (slW last l at_ wr).1.id l (slW last l at_ wr).2.1 (slW last l at_ wr).2.2).1, (slsW n (slW last l at_ wr).1.id l (slW last l at_ wr).2.1 (slW last l at_ wr).2.2).2) else ([], at_, wr)
def finW (e : Ed) (l : List UInt8) (at_ wr : Nat) : Ed × Nat := if wr = 0 then (if at_ < l.length then (Ed.none, 5) else (e, 0)) else (Ed.none, wr)
def sealsW (k : Int) (l : List UInt8) (nm : List UInt8) (seq id many at_ wr : Nat) : Ed × Nat := finW ⟨k, nm, seq, id, (slsW many 0 l at_ wr).1⟩ l (slsW many 0 l at_ wr).2.1 (slsW many 0 l at_ wr).2.2
def restM (k : Int) (l : List UInt8) (nm : List UInt8) (seq id at_ wr : Nat) : Ed × Nat := sealsW k l nm seq id (manyW k l at_ wr).1 (manyW k l at_ wr).2.1 (manyW k l at_ wr).2.2
def restI (k : Int) (l : List UInt8) (nm : List UInt8) (seq at_ wr : Nat) : Ed × Nat := restM k l nm seq (idW k l at_ wr).1 (idW k l at_ wr).2.1 (idW k l at_ wr).2.2
def restN (k : Int) (l : List UInt8) (seq at_ wr : Nat) : Ed × Nat := restI k l (nameW k l at_ wr).1 seq (nameW k l at_ wr).2.1 (nameW k l at_ wr).2.2
def restS (k : Int) (l : List UInt8) (at_ wr : Nat) : Ed × Nat := restN k l (seqW k l at_ wr).1 (seqW k l at_ wr).2.1 (seqW k l at_ wr).2.2
def kindOf (l : List UInt8) : Int := (((l.getD 0 0).toNat : Nat) : Int)
def rgetW (l : List UInt8) : Ed × Nat := if l.length = 0 then (Ed.none, 4) else if isKind (kindOf l) = false then (Ed.none, 5) else restS (kindOf l) l 1 0

section
variable {k : Int} {l : List UInt8} {at_ wr n last : Nat}
theorem slsW_wrong (h : ¬ wr = 0) : ∀ n, slsW n last l at_ wr = ([], at_, wr)
  | 0 => rfl
  | n + 1 => by unfold slsW; rw [if_neg h]
theorem sealsW_wrong {nm : List UInt8} {seq id many : Nat} (h : ¬ wr = 0) : sealsW k l nm seq id many at_ wr = (Ed.none, wr) := by
  unfold sealsW finW
  rw [slsW_wrong h, if_neg h]
theorem restM_wrong {nm : List UInt8} {seq id : Nat} (h : ¬ wr = 0) : restM k l nm seq id at_ wr = (Ed.none, wr) := by
  unfold restM
  have : (manyW k l at_ wr).2.2 = wr := by unfold manyW; split; rfl; split; rw [numW_wrong h]; rfl
  rw [sealsW_wrong (by rw [this]; exact h), this]
theorem restI_wrong {nm : List UInt8} {seq : Nat} (h : ¬ wr = 0) : restI k l nm seq at_ wr = (Ed.none, wr) := by
  unfold restI
  have : (idW k l at_ wr).2.2 = wr := by unfold idW; split; rw [numW_wrong h]; rfl
  rw [restM_wrong (by rw [this]; exact h), this]
theorem restN_wrong {seq : Nat} (h : ¬ wr = 0) : restN k l seq at_ wr = (Ed.none, wr) := by
  unfold restN
  have : (nameW k l at_ wr).2.2 = wr := by unfold nameW; split; rw [numW_wrong h]; unfold takeW; rw [if_neg h]; rfl
  rw [restI_wrong (by rw [this]; exact h), this]
theorem endsW_wrong {i z m : Nat} (h : ¬ wr = 0) : (endsW l i z m at_ wr).2.2 = wr := by
  unfold endsW
  split
  · rfl
  · rw [numW_wrong h]
    dsimp only
    rw [numW_wrong h]
theorem manW_wrong {i z : Nat} (h : ¬ wr = 0) : (manW l i z at_ wr).2.2 = wr := by
  unfold manW
  rw [numW_wrong h]
  exact endsW_wrong h
theorem sizW_wrong {i : Nat} (h : ¬ wr = 0) : (sizW l i at_ wr).2.2 = wr := by
  unfold sizW
  rw [numW_wrong h]
  exact manW_wrong h
theorem sim_ok {α : Type} {x : Rdr α} {a v : α} {r : List UInt8} (h : Sim l x a at_ wr) (hx : x = .ok (v, r)) : a = v ∧ wr = 0 ∧ r = l.drop at_ ∧ at_ ≤ l.length := by subst hx; exact h
theorem sim_err {α : Type} {x : Rdr α} {a : α} {e : Nat} (h : Sim l x a at_ wr) (hx : x = .error e) : wr = e ∧ ¬ e = 0 := by subst hx; exact h
end
/-- a seal -/
theorem sl_sim {l : List UInt8} {at_ last : Nat} (h : at_ ≤ l.length) : Sim l (rdSl (last + 1) (l.drop at_)) (slW last l at_ 0).1 (slW last l at_ 0).2.1 (slW last l at_ 0).2.2 := by
  unfold rdSl slW
  have h1 := num_sim (least := last + 1) (most := 16777215) h
  generalize numW (last + 1) 16777215 l at_ 0 = p1 at *
  obtain ⟨i, at1, wr1⟩ := p1
  dsimp only at *
  cases hx1 : rdNum (last + 1) 16777215 (l.drop at_) with
  | error e =>
    obtain ⟨rfl, he⟩ := sim_err h1 hx1
    exact ⟨sizW_wrong he, he⟩
  | ok p =>
  obtain ⟨v, r⟩ := p
  obtain ⟨rfl, rfl, rfl, h1⟩ := sim_ok h1 hx1
  rw [bind_ok]
  unfold sizW
  have h2 := num_sim (least := 16) (most := 16777216) h1
  generalize numW 16 16777216 l at1 0 = p2 at *
  obtain ⟨z, at2, wr2⟩ := p2
  dsimp only at *
  cases hx2 : rdNum 16 16777216 (l.drop at1) with
  | error e =>
    obtain ⟨rfl, he⟩ := sim_err h2 hx2
    exact ⟨manW_wrong he, he⟩
  | ok p =>
  obtain ⟨v, r⟩ := p
  obtain ⟨rfl, rfl, rfl, h2⟩ := sim_ok h2 hx2
  rw [bind_ok]
  unfold manW
  have h3 := num_sim (least := 0) (most := 4294967295) h2
  generalize numW 0 4294967295 l at2 0 = p3 at *
  obtain ⟨m, at3, wr3⟩ := p3
  dsimp only at *
  cases hx3 : rdNum 0 4294967295 (l.drop at2) with
  | error e =>
    obtain ⟨rfl, he⟩ := sim_err h3 hx3
    exact ⟨endsW_wrong he, he⟩
  | ok p =>
  obtain ⟨v, r⟩ := p
  obtain ⟨rfl, rfl, rfl, h3⟩ := sim_ok h3 hx3
  rw [bind_ok]
  unfold endsW
  by_cases hm : m = 0
  · rw [if_pos hm, if_pos hm]
    exact ⟨rfl, rfl, rfl, h3⟩
  rw [if_neg hm, if_neg hm]
  have h4 := num_sim (least := 1) (most := 1099511627776) h3
  generalize numW 1 1099511627776 l at3 0 = p4 at *
  obtain ⟨f, at4, wr4⟩ := p4
  dsimp only at *
  cases hx4 : rdNum 1 1099511627776 (l.drop at3) with
  | error e =>
    obtain ⟨rfl, he⟩ := sim_err h4 hx4
    exact ⟨by rw [numW_wrong he], he⟩
  | ok p =>
  obtain ⟨v, r⟩ := p
  obtain ⟨rfl, rfl, rfl, h4⟩ := sim_ok h4 hx4
  rw [bind_ok]
  have h5 := num_sim (least := m - 1) (most := 1099511627776 - f) h4
  generalize numW (m - 1) (1099511627776 - f) l at4 0 = p5 at *
  obtain ⟨d, at5, wr5⟩ := p5
  dsimp only at *
  cases hx5 : rdNum (m - 1) (1099511627776 - f) (l.drop at4) with
  | error e =>
    obtain ⟨rfl, he⟩ := sim_err h5 hx5
    exact ⟨rfl, he⟩
  | ok p =>
  obtain ⟨v, r⟩ := p
  obtain ⟨rfl, rfl, rfl, h5⟩ := sim_ok h5 hx5
  exact ⟨rfl, rfl, rfl, h5⟩
theorem sls_sim {l : List UInt8} : ∀ {n at_ last : Nat}, at_ ≤ l.length → Sim l (rdSls n (last + 1) (l.drop at_)) (slsW n last l at_ 0).1 (slsW n last l at_ 0).2.1 (slsW n last l at_ 0).2.2
  | 0, at_, last, h => ⟨rfl, rfl, rfl, h⟩
  | n + 1, at_, last, h => by
    unfold slsW
    rw [if_pos rfl]
    have h1 := sl_sim (last := last) h
    generalize slW last l at_ 0 = p at *
    obtain ⟨s, at1, wr1⟩ := p
    dsimp only at *
    rw [show rdSls (n + 1) (last + 1) (l.drop at_) = bindR (rdSl (last + 1) (l.drop at_)) fun s l => bindR (rdSls n (s.id + 1) l) fun r l => .ok (s :: r, l) from rfl]
    cases hx : rdSl (last + 1) (l.drop at_) with
    | error e =>
      obtain ⟨rfl, he⟩ := sim_err h1 hx
      rw [slsW_wrong he]
      exact ⟨rfl, he⟩
    | ok p =>
    obtain ⟨v, r⟩ := p
    obtain ⟨rfl, rfl, rfl, h1⟩ := sim_ok h1 hx
    rw [bind_ok]
    have h2 := sls_sim (n := n) (last := s.id) h1
    generalize slsW n s.id l at1 0 = q at *
    obtain ⟨t, at2, wr2⟩ := q
    dsimp only at *
    cases hy : rdSls n (s.id + 1) (l.drop at1) with
    | error e =>
      obtain ⟨rfl, he⟩ := sim_err h2 hy
      exact ⟨rfl, he⟩
    | ok p =>
    obtain ⟨v, r⟩ := p
    obtain ⟨rfl, rfl, rfl, h2⟩ := sim_ok h2 hy
    exact ⟨rfl, rfl, rfl, h2⟩
theorem name_sim {k : Int} {l : List UInt8} {at_ : Nat} (h : at_ ≤ l.length) : Sim l (rdName k (l.drop at_)) (nameW k l at_ 0).1 (nameW k l at_ 0).2.1 (nameW k l at_ 0).2.2 := by
  unfold rdName nameW
  cases hasName k with
  | false => exact ⟨rfl, rfl, rfl, h⟩
  | true =>
  rw [if_pos rfl, if_pos rfl]
  have h1 := num_sim (least := 1) (most := 32) h
  generalize numW 1 32 l at_ 0 = p at *
  obtain ⟨n, at1, wr1⟩ := p
  dsimp only at *
  cases hx : rdNum 1 32 (l.drop at_) with
  | error e =>
    obtain ⟨rfl, he⟩ := sim_err h1 hx
    exact ⟨by unfold takeW; rw [if_neg he], he⟩
  | ok p =>
  obtain ⟨v, r⟩ := p
  obtain ⟨rfl, rfl, rfl, h1⟩ := sim_ok h1 hx
  rw [bind_ok]
  unfold rdText takeW
  rw [List.length_drop, if_pos rfl]
  by_cases hn : l.length - at1 < n
  · rw [if_pos hn, if_pos hn]
    exact ⟨rfl, by decide⟩
  · rw [if_neg hn, if_neg hn]
    exact ⟨rfl, rfl, by rw [List.drop_drop], by show at1 + n ≤ _; omega⟩
theorem rgetW_get (l : List UInt8) : rgetW l = getE l := by
  unfold rgetW getE rdEd
  cases l with
  | nil => rfl
  | cons c r =>
  have hk : kindOf (c :: r) = ((c.toNat : Nat) : Int) := rfl
  rw [if_neg (by simp), hk]
  have ht : rdText 1 (c :: r) = .ok ([c], r) := by unfold rdText; rw [if_neg (by simp)]; simp
  rw [ht, bind_ok]
  dsimp only
  rw [show ([c] : List UInt8).getD 0 0 = c from rfl]
  generalize ((c.toNat : Nat) : Int) = k
  cases hk : isKind k with
  | false => rfl
  | true =>
  rw [if_neg (by decide), if_neg (by decide)]
  have hr : r = (c :: r).drop 1 := rfl
  have h0 : 1 ≤ (c :: r).length := by simp
  rw [show rdSeq k r = rdSeq k ((c :: r).drop 1) from rfl]
  generalize c :: r = l at *
  clear hr ht
  unfold restS
  have h1 : Sim l (rdSeq k (l.drop 1)) (seqW k l 1 0).1 (seqW k l 1 0).2.1 (seqW k l 1 0).2.2 := by
    unfold rdSeq seqW
    cases hasSeq k with
    | false => exact ⟨rfl, rfl, rfl, h0⟩
    | true => exact num_sim h0
  generalize seqW k l 1 0 = p1 at *
  obtain ⟨sq, at1, wr1⟩ := p1
  dsimp only at *
  cases hx1 : rdSeq k (l.drop 1) with
  | error e =>
    obtain ⟨rfl, he⟩ := sim_err h1 hx1
    exact restN_wrong he
  | ok p =>
  obtain ⟨v, r1⟩ := p
  obtain ⟨rfl, rfl, rfl, h1⟩ := sim_ok h1 hx1
  rw [bind_ok]
  unfold restN
  have h2 := name_sim (k := k) h1
  generalize nameW k l at1 0 = p2 at *
  obtain ⟨nm, at2, wr2⟩ := p2
  dsimp only at *
  cases hx2 : rdName k (l.drop at1) with
  | error e =>
    obtain ⟨rfl, he⟩ := sim_err h2 hx2
    exact restI_wrong he
  | ok p =>
  obtain ⟨v, r1⟩ := p
  obtain ⟨rfl, rfl, rfl, h2⟩ := sim_ok h2 hx2
  rw [bind_ok]
  unfold restI
  have h3 : Sim l (rdId k (l.drop at2)) (idW k l at2 0).1 (idW k l at2 0).2.1 (idW k l at2 0).2.2 := by
    unfold rdId idW
    cases hasId k with
    | false => exact ⟨rfl, rfl, rfl, h2⟩
    | true => exact num_sim h2
  generalize idW k l at2 0 = p3 at *
  obtain ⟨id, at3, wr3⟩ := p3
  dsimp only at *
  cases hx3 : rdId k (l.drop at2) with
  | error e =>
    obtain ⟨rfl, he⟩ := sim_err h3 hx3
    exact restM_wrong he
  | ok p =>
  obtain ⟨v, r1⟩ := p
  obtain ⟨rfl, rfl, rfl, h3⟩ := sim_ok h3 hx3
  rw [bind_ok]
  unfold restM
  have h4 : Sim l (rdMany k (l.drop at3)) (manyW k l at3 0).1 (manyW k l at3 0).2.1 (manyW k l at3 0).2.2 := by
    unfold rdMany manyW
    split
    · exact ⟨rfl, rfl, rfl, h3⟩
    · split
      · exact num_sim h3
      · exact ⟨rfl, rfl, rfl, h3⟩
  generalize manyW k l at3 0 = p4 at *
  obtain ⟨many, at4, wr4⟩ := p4
  dsimp only at *
  cases hx4 : rdMany k (l.drop at3) with
  | error e =>
    obtain ⟨rfl, he⟩ := sim_err h4 hx4
    exact sealsW_wrong he
  | ok p =>
  obtain ⟨v, r1⟩ := p
  obtain ⟨rfl, rfl, rfl, h4⟩ := sim_ok h4 hx4
  rw [bind_ok]
  unfold sealsW
  have h5 := sls_sim (n := many) (last := 0) h4
  generalize slsW many 0 l at4 0 = p5 at *
  obtain ⟨sl, at5, wr5⟩ := p5
  dsimp only at *
  cases hx5 : rdSls many (0 + 1) (l.drop at4) with
  | error e =>
    obtain ⟨rfl, he⟩ := sim_err h5 hx5
    unfold finW
    rw [if_neg he]
    rfl
  | ok p =>
  obtain ⟨v, r1⟩ := p
  obtain ⟨rfl, rfl, rfl, h5⟩ := sim_ok h5 hx5
  rw [bind_ok]
  unfold finW
  rw [if_pos rfl, List.length_drop]
  by_cases hl : at5 < l.length
  · rw [if_pos hl, if_pos (by omega)]
  · rw [if_neg hl, if_neg (by omega)]
end Go.Proofs.Ytedjolkkidciiaa
