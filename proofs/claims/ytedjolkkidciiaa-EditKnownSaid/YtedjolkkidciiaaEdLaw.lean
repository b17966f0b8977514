/- Edits as data: which may be, their bytes, and how bytes are read. Plain definitions. -/
import Derived.Test.YtedjolkkidciiaaGP
namespace Go.Proofs.Ytedjolkkidciiaa
open Go.RowKit

/-- a seal -/
structure Sl where
  id : Nat
  size : Nat
  many : Nat
  first : Nat
  last : Nat
deriving DecidableEq
def Sl.fits (s : Sl) : Prop := s.id < 4294967296 ∧ s.size < 4294967296 ∧ s.many < 4294967296 ∧ s.first < 18446744073709551616 ∧ s.last < 18446744073709551616
def Sl.cells (s : Sl) : List Value := [.int .u32 (s.id : Int), .int .u32 (s.size : Int), .int .u32 (s.many : Int), .int .u64 (s.first : Int), .int .u64 (s.last : Int)]
def slCells (l : List Sl) : List Value := l.flatMap Sl.cells
theorem slCells_len (l : List Sl) : (slCells l).length = l.length * 5 := by
  induction l with
  | nil => rfl
  | cons s l ih => rw [slCells, List.flatMap_cons, List.length_append, ← slCells, ih, List.length_cons]; simp [Sl.cells]; omega
/-- an edit -/
structure Ed where
  kind : Int
  name : List UInt8
  seq : Nat
  id : Nat
  seals : List Sl
deriving DecidableEq
def Ed.none : Ed := ⟨0, [], 0, 0, []⟩

/-- reading: what is read, and what stands behind; or the error's number -/
abbrev Rdr (α : Type) := Except Nat (α × List UInt8)
def rdNum (least most : Nat) (l : List UInt8) : Rdr Nat :=
  if (getP l).2.2 = 0 then (if (getP l).1 < least ∨ most < (getP l).1 then .error 5 else .ok ((getP l).1, l.drop (getP l).2.1)) else .error (getP l).2.2
def rdText (n : Nat) (l : List UInt8) : Rdr (List UInt8) := if l.length < n then .error 4 else .ok (l.take n, l.drop n)
theorem rdNum_ok {least most : Nat} {l r : List UInt8} {n : Nat} (h : rdNum least most l = .ok (n, r)) : (getP l).2.2 = 0 ∧ n = (getP l).1 ∧ least ≤ n ∧ n ≤ most ∧ r = l.drop (getP l).2.1 ∧ (getP l).2.1 ≤ l.length ∧ n < 18446744073709551616 ∧ l.take (getP l).2.1 = pform n := by
  unfold rdNum at h
  rcases getP_any l with ⟨h0, h1, h2, h3⟩ | ⟨h0, _⟩
  · rw [if_pos h0] at h
    split at h
    · cases h
    · rename_i hn
      injection h with h
      injection h with ha hb
      subst ha; subst hb
      exact ⟨h0, rfl, by omega, by omega, rfl, h1, h2, h3.symm⟩
  · rw [if_neg (by omega)] at h
    cases h
theorem rdNum_err {least most : Nat} {l : List UInt8} {e : Nat} (h : rdNum least most l = .error e) : e = 4 ∨ e = 5 := by
  unfold rdNum at h
  rcases getP_any l with ⟨h0, _⟩ | ⟨h0, _⟩
  · rw [if_pos h0] at h
    split at h
    · injection h with h; exact Or.inr h.symm
    · cases h
  · rw [if_neg (by omega)] at h
    injection h with h
    omega

/-- which parts a kind has -/
def hasSeq (k : Int) : Bool := k == 1 || k == 2 || k == 6
def hasName (k : Int) : Bool := k == 2 || k == 3
def hasId (k : Int) : Bool := k == 4
def hasSeals (k : Int) : Bool := k == 5 || k == 6
def isKind (k : Int) : Bool := decide (1 ≤ k) && decide (k ≤ 6)
def maySl (s : Sl) : Bool :=
  decide (1 ≤ s.id) && decide (s.id ≤ 16777215) && decide (16 ≤ s.size) && decide (s.size ≤ 16777216) &&
  (if s.many = 0 then decide (s.first = 0) && decide (s.last = 0) else decide (1 ≤ s.first) && decide (s.first ≤ s.last) && decide (s.last ≤ 1099511627776) && decide (s.many - 1 ≤ s.last - s.first))
/-- seals that may be, whose ids rise above a number -/
def maySls (above : Nat) : List Sl → Bool
  | [] => true
  | s :: r => maySl s && decide (above < s.id) && maySls s.id r
def mayEd (e : Ed) : Bool :=
  isKind e.kind && decide (e.seq ≤ 1099511627776) && (hasSeq e.kind || decide (e.seq = 0)) && (if hasName e.kind then decide (1 ≤ e.name.length) && decide (e.name.length ≤ 32) else decide (e.name.length = 0)) &&
  (if hasId e.kind then decide (1 ≤ e.id) && decide (e.id ≤ 16777215) else decide (e.id = 0)) && (hasSeals e.kind || decide (e.seals.length = 0)) && (!(e.kind == 5) || decide (e.seals.length = 1)) && decide (e.seals.length ≤ 200) && maySls 0 e.seals
def slB (s : Sl) : List UInt8 := pform s.id ++ pform s.size ++ pform s.many ++ (if s.many = 0 then [] else pform s.first ++ pform (s.last - s.first))
def edB (e : Ed) : List UInt8 :=
  [UInt8.ofNat e.kind.toNat] ++ (if hasSeq e.kind then pform e.seq else []) ++ (if hasName e.kind then pform e.name.length ++ e.name else []) ++ (if hasId e.kind then pform e.id else []) ++ (if e.kind = 6 then pform e.seals.length else []) ++ e.seals.flatMap slB

def bindR {α β : Type} (x : Rdr α) (f : α → List UInt8 → Except Nat β) : Except Nat β :=
  match x with
  | .ok (a, l) => f a l
  | .error e => .error e
/-- a seal whose id is at least so much -/
def rdSl (id : Nat) (l : List UInt8) : Rdr Sl :=
  bindR (rdNum id 16777215 l) fun i l => bindR (rdNum 16 16777216 l) fun s l => bindR (rdNum 0 4294967295 l) fun m l =>
    if m = 0 then .ok (⟨i, s, 0, 0, 0⟩, l) else bindR (rdNum 1 1099511627776 l) fun f l => bindR (rdNum (m - 1) (1099511627776 - f) l) fun d l => .ok (⟨i, s, m, f, f + d⟩, l)
def rdSls : Nat → Nat → List UInt8 → Rdr (List Sl)
  | 0, _, l => .ok ([], l)
  | n + 1, id, l => bindR (rdSl id l) fun s l => bindR (rdSls n (s.id + 1) l) fun r l => .ok (s :: r, l)
def rdSeq (k : Int) (l : List UInt8) : Rdr Nat := if hasSeq k then rdNum 0 1099511627776 l else .ok (0, l)
def rdName (k : Int) (l : List UInt8) : Rdr (List UInt8) := if hasName k then bindR (rdNum 1 32 l) fun n l => rdText n l else .ok ([], l)
def rdId (k : Int) (l : List UInt8) : Rdr Nat := if hasId k then rdNum 1 16777215 l else .ok (0, l)
def rdMany (k : Int) (l : List UInt8) : Rdr Nat := if k = 5 then .ok (1, l) else if k = 6 then rdNum 0 200 l else .ok (0, l)
def rdEd (l : List UInt8) : Except Nat Ed :=
  bindR (rdText 1 l) fun c l =>
    let kind : Int := ((c.getD 0 0).toNat : Int)
    if isKind kind = false then .error 5 else
      bindR (rdSeq kind l) fun seq l => bindR (rdName kind l) fun name l => bindR (rdId kind l) fun id l => bindR (rdMany kind l) fun many l => bindR (rdSls many 1 l) fun seals l =>
        if 0 < l.length then .error 5 else .ok ⟨kind, name, seq, id, seals⟩
/-- an edit's cells (its name and its seals lie behind) -/
def edC (e : Ed) (S : ByteArray) (v : Value) : Array Value := #[.int .i64 e.kind, .string S, .int .u64 (e.seq : Int), .int .u32 (e.id : Int), v]
end Go.Proofs.Ytedjolkkidciiaa
