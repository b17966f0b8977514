/- Package edit: the reader's edit. For every bytes. -/
import Derived.Test.YtedjolkkidciiaaEd3
namespace Go.Proofs.Ytedjolkkidciiaa
open Go.RowKit
attribute [local go_sem] Oper.semAt_some

theorem Try.infoSeal : (Try.prog.info? 40).map (fun i => (i.zero, i.size, i.bytes)) = some (some (.agg #[.int .u32 0, .int .u32 0, .int .u32 0, .int .u64 0, .int .u64 0]), 5, 32) := by kernel_rfl
theorem eltSeal : Elt Try.prog 26 40 (.agg #[.int .u32 0, .int .u32 0, .int .u32 0, .int .u64 0, .int .u64 0]) 5 32 := ⟨Try.underlying26, Try.infoSeal, rfl, by omega⟩
def rdFin (e : Ed) (l : List UInt8) : Except Nat Ed := if 0 < l.length then .error 5 else .ok e
/-- what comes back of reading an edit, or what is thrown -/
def RetEd (w : World) (r : Nat) (x : Except Nat Ed) (e : Ending) (w' : World) : Prop :=
  match x with
  | .ok d => (∃ v, e = .returned (.agg (edC d ⟨d.name.toArray⟩ v)) ∧ w'.ownsRow w.heap.size 40 5 v d.seals.length (slCells d.seals)) ∧ w.grownBy w' (some r)
  | .error c => e = thrown c ∧ w.grownBy w' (some r)
theorem rdEd_nil : rdEd [] = .error 4 := rfl
theorem rdEd_cons (c : UInt8) (l : List UInt8) : rdEd (c :: l) = if isKind (c.toNat : Int) = false then .error 5 else
    bindR (rdSeq (c.toNat : Int) l) fun seq l => bindR (rdName (c.toNat : Int) l) fun name l => bindR (rdId (c.toNat : Int) l) fun id l => bindR (rdMany (c.toNat : Int) l) fun many l => bindR (rdSls many 1 l) fun seals l => rdFin ⟨(c.toNat : Int), name, seq, id, seals⟩ l := by
  unfold rdEd rdText
  rw [if_neg (by simp)]
  rfl
theorem bind_ok {α β : Type} (a : α) (l : List UInt8) (f : α → List UInt8 → Except Nat β) : bindR (.ok (a, l)) f = f a l := rfl
theorem bind_err {α β : Type} (e : Nat) (f : α → List UInt8 → Except Nat β) : bindR (.error e : Rdr α) f = .error e := rfl
theorem rdSls_zero (id : Nat) (l : List UInt8) : rdSls 0 id l = .ok ([], l) := rfl
theorem rd1 {c : UInt8} (hc : c.toNat = 1) (l : List UInt8) : rdEd (c :: l) = bindR (rdNum 0 1099511627776 l) fun seq l => rdFin ⟨1, [], seq, 0, []⟩ l := by
  rw [rdEd_cons, hc]; rfl
theorem rd2 {c : UInt8} (hc : c.toNat = 2) (l : List UInt8) : rdEd (c :: l) = bindR (rdNum 0 1099511627776 l) fun seq l => bindR (bindR (rdNum 1 32 l) fun n l => rdText n l) fun name l => rdFin ⟨2, name, seq, 0, []⟩ l := by
  rw [rdEd_cons, hc]; rfl
theorem rd3 {c : UInt8} (hc : c.toNat = 3) (l : List UInt8) : rdEd (c :: l) = bindR (bindR (rdNum 1 32 l) fun n l => rdText n l) fun name l => rdFin ⟨3, name, 0, 0, []⟩ l := by
  rw [rdEd_cons, hc]; rfl
theorem rd4 {c : UInt8} (hc : c.toNat = 4) (l : List UInt8) : rdEd (c :: l) = bindR (rdNum 1 16777215 l) fun id l => rdFin ⟨4, [], 0, id, []⟩ l := by
  rw [rdEd_cons, hc]; rfl
theorem rd5 {c : UInt8} (hc : c.toNat = 5) (l : List UInt8) : rdEd (c :: l) = bindR (rdSls 1 1 l) fun seals l => rdFin ⟨5, [], 0, 0, seals⟩ l := by
  rw [rdEd_cons, hc]; rfl
theorem rd6 {c : UInt8} (hc : c.toNat = 6) (l : List UInt8) : rdEd (c :: l) = bindR (rdNum 0 1099511627776 l) fun seq l => bindR (rdNum 0 200 l) fun many l => bindR (rdSls many 1 l) fun seals l => rdFin ⟨6, [], seq, 0, seals⟩ l := by
  rw [rdEd_cons, hc]; rfl
theorem rdBad {c : UInt8} (h : isKind (c.toNat : Int) = false) (l : List UInt8) : rdEd (c :: l) = .error 5 := by
  rw [rdEd_cons, if_pos h]
/-- seals read, ahead of what is still to be read -/
def prep (d : List Sl) (x : Rdr (List Sl)) : Rdr (List Sl) := bindR x fun r l => .ok (d ++ r, l)
theorem prep_nil (x : Rdr (List Sl)) : prep [] x = x := by
  unfold prep bindR
  cases x with
  | error e => rfl
  | ok p => rfl
theorem prep_step (d : List Sl) (n id : Nat) (l : List UInt8) {s : Sl} {l' : List UInt8} (h : rdSl id l = .ok (s, l')) : prep d (rdSls (n + 1) id l) = prep (d ++ [s]) (rdSls n (s.id + 1) l') := by
  rw [show rdSls (n + 1) id l = bindR (rdSl id l) fun s l => bindR (rdSls n (s.id + 1) l) fun r l => .ok (s :: r, l) from rfl, h, bind_ok]
  generalize rdSls n (s.id + 1) l' = x
  unfold prep
  cases x with
  | error e => rfl
  | ok p => simp [bindR]
theorem prep_err (d : List Sl) (n id : Nat) (l : List UInt8) {e : Nat} (h : rdSl id l = .error e) : prep d (rdSls (n + 1) id l) = .error e := by
  rw [show rdSls (n + 1) id l = bindR (rdSl id l) fun s l => bindR (rdSls n (s.id + 1) l) fun r l => .ok (s :: r, l) from rfl, h]
  rfl
theorem rdSl_ok {id : Nat} {l l' : List UInt8} {s : Sl} (h : rdSl id l = .ok (s, l')) : id ≤ s.id ∧ s.id ≤ 16777215 := by
  unfold rdSl at h
  cases h1 : rdNum id 16777215 l with
  | error e => rw [h1] at h; cases h
  | ok p =>
    obtain ⟨i, l1⟩ := p
    have hi := rdNum_ok h1
    rw [h1, bind_ok] at h
    cases h2 : rdNum 16 16777216 l1 with
    | error e => rw [h2] at h; cases h
    | ok p =>
      obtain ⟨z, l2⟩ := p
      rw [h2, bind_ok] at h
      cases h3 : rdNum 0 4294967295 l2 with
      | error e => rw [h3] at h; cases h
      | ok p =>
        obtain ⟨m, l3⟩ := p
        rw [h3, bind_ok] at h
        split at h
        · injection h with h; injection h with h _; subst h; exact ⟨hi.2.2.1, hi.2.2.2.1⟩
        · cases h4 : rdNum 1 1099511627776 l3 with
          | error e => rw [h4] at h; cases h
          | ok p =>
            obtain ⟨f, l4⟩ := p
            rw [h4, bind_ok] at h
            cases h5 : rdNum (m - 1) (1099511627776 - f) l4 with
            | error e => rw [h5] at h; cases h
            | ok p =>
              obtain ⟨d, l5⟩ := p
              rw [h5, bind_ok] at h
              injection h with h; injection h with h _; subst h; exact ⟨hi.2.2.1, hi.2.2.2.1⟩
theorem own_blk_lt {w : World} {base : Nat} {e : TypeId} {size n : Nat} {v : Value} {xs : List Value} (h : Ow w base e size v n xs) : ∀ g, v.ownBlock = some g → g < w.heap.size := by
  intro g hg
  rcases own_form h with ⟨rfl, _⟩ | ⟨k, cap, rfl, _, hlt, _⟩
  · cases hg
  · injection hg with hg
    subst hg
    exact hlt
theorem slCells_snoc (d : List Sl) (s : Sl) : slCells (d ++ [s]) = slCells d ++ s.cells := by simp [slCells]
theorem Kept.below {r : Nat} {w a b : World} (h : Kept r w a) (hb : Below w.heap.size a b) : Kept r w b :=
  ⟨hb.os.trans h.1, hb.tape.trans h.2.1, hb.output.trans h.2.2.1, Nat.le_trans h.2.2.2.1 hb.size, fun k hk hr => (hb.block k hk).trans (h.2.2.2.2 k hk hr)⟩
theorem Stands.below {w w' : World} {B r g : Nat} {l : List UInt8} (h : Stands w B r l) (hb : Below g w w') (hB : B ≤ r) (hr : r < g) : Stands w' B r l := by
  obtain ⟨A, n, c, q, hr', hnc⟩ := h
  exact ⟨A, n, c, q.below hb hr, hr'.below hb (by omega), hnc⟩
end Go.Proofs.Ytedjolkkidciiaa
