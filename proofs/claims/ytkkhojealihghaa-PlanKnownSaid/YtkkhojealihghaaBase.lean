/- Small general lemmas: slices that are read, what a law's row asks. No condition. -/
import Derived.WalkKit
import Derived.WalkSpells
import Derived.WalkLawsBesides
import Derived.BigQuiet
import Derived.Deep.QuietTactic
import Derived.Lib.Hide
import Derived.ProofKit
import Derived.Deep.Slices
import Derived.Deep.Fields
import Derived.ChangeSame
namespace Go.Proofs.Ytkkhojealihghaa
open Go.ChangeShapes Go.WideShapes Go.ChangeAt Go.RowKit

/-- the slice '.slice A n c' reads as the cells xs, in a block below B -/
def Rd (w : World) (B size : Nat) (A : Option Addr) (n : Nat) (xs : List Value) : Prop :=
  xs.length = n * size ∧ n ≤ maxLen ∧ (0 < n → ∃ b off, A = some ⟨b, off, none⟩ ∧ b < B ∧ ∀ j u, xs[j]? = some u → w.cell? ⟨b, off + j, none⟩ = some u)

theorem cell_addr {w : World} {a : Addr} {v : Value} (h : w.cell? a = some v) : a = ⟨a.block, a.off, none⟩ ∧ a.block < w.heap.size := by
  obtain ⟨b, off, spot⟩ := a
  unfold World.cell? at h
  split at h
  · rename_i c e fr hb
    split at h
    · cases h
    · rename_i hs
      refine ⟨?_, (Array.getElem?_eq_some_iff.1 hb).1⟩
      cases spot <;> simp_all
  · cases h
theorem add_none (b off m : Nat) : (⟨b, off, none⟩ : Addr).add m = ⟨b, off + m, none⟩ := by
  unfold Addr.add; split <;> simp_all

section
variable {w w' : World} {B B' size n : Nat} {A : Option Addr} {xs : List Value}
theorem Rd.nil_ (w : World) (B size : Nat) (A : Option Addr) : Rd w B size A 0 [] := ⟨by simp, by unfold maxLen; omega, fun h => absurd h (by omega)⟩
theorem Rd.keep (h : Rd w B size A n xs) (hk : ∀ p : Addr, p.block < B → w'.cell? p = w.cell? p) : Rd w' B size A n xs :=
  ⟨h.1, h.2.1, fun hn => by
    obtain ⟨b, off, e, hb, hc⟩ := h.2.2 hn
    exact ⟨b, off, e, hb, fun j u hu => (hk ⟨b, off + j, none⟩ hb).trans (hc j u hu)⟩⟩
theorem Rd.more (h : Rd w B size A n xs) (hB : B ≤ B') : Rd w B' size A n xs :=
  ⟨h.1, h.2.1, fun hn => by
    obtain ⟨b, off, e, hb, hc⟩ := h.2.2 hn
    exact ⟨b, off, e, by omega, hc⟩⟩
theorem Rd.below (h : Rd w B size A n xs) {C : Nat} (hb : Below C w w') (hC : B ≤ C) : Rd w' B size A n xs := h.keep fun _ hp => hb.cell (by omega)
theorem Rd.drewN (h : Rd w B size A n xs) (k : Nat) : Rd (w.drewN k) B size A n xs := h
theorem Rd.drew (h : Rd w B size A n xs) : Rd w.drew B size A n xs := h
theorem Rd.alloc (h : Rd w B size A n xs) (hB : B ≤ w.heap.size) (o : Obj) : Rd (w.alloc o) B size A n xs := h.keep fun p hp => World.cell?_alloc_lt w o p (by omega)
theorem Rd.setCell (h : Rd w B size A n xs) {p : Addr} (hB : B ≤ p.block) (u : Value) : Rd (w.setCell p u) B size A n xs :=
  h.keep fun q hq => World.cell?_setCell_other w p q u (fun e => by subst e; omega)
theorem Rd.grown (h : Rd w B size A n xs) {row : Option Nat} (hg : w.grownBy w' row) (hB : B ≤ w.heap.size) (hr : ∀ g, row = some g → B ≤ g) : Rd w' B size A n xs :=
  h.keep fun p hp => World.cell?_of_block (hg.block p.block (by omega) (fun e => by have := hr _ e.symm; omega))
theorem Rd.of_own {base : Nat} {e : TypeId} {c : Nat} (h : w.ownsRow base e size (.slice A n c) n xs) : Rd w w.heap.size size A n xs := by
  have hlen := h.1
  rcases h.2 with ⟨hv, rfl⟩ | ⟨g, cap, cur, hv, hb, hh, hnc, hcm, hcs, ht⟩
  · exact ⟨hlen, by unfold maxLen; omega, fun hn => absurd hn (by omega)⟩
  · injection hv with hA hn hc
    subst hA
    refine ⟨hlen, by omega, fun _ => ⟨g, 0, rfl, (Array.getElem?_eq_some_iff.1 hh).1, fun j u hu => ?_⟩⟩
    have := h.cells (g := g) rfl j u hu
    rw [add_none] at this
    exact this
/-- the cells of element k, a struct's or a plain one's -/
theorem Rd.cell (h : Rd w B size A n xs) {b off : Nat} (hA : A = some ⟨b, off, none⟩) (hn : 0 < n) {j : Nat} {u : Value} (hu : xs[j]? = some u) : w.cell? ⟨b, off + j, none⟩ = some u := by
  obtain ⟨b', off', e, _, hc⟩ := h.2.2 hn
  rw [hA] at e
  injection e with e
  injection e with e1 e2
  subst e1; subst e2
  exact hc j u hu
end

/-! ### arguments that are slices, read as lists of cells -/
theorem flatMap_get {α β : Type} (g : α → List β) (size : Nat) (hg : ∀ x, (g x).length = size) : ∀ (l : List α) (i j : Nat), j < size → (l.flatMap g)[i * size + j]? = (l[i]?).bind fun x => (g x)[j]?
  | [], i, j, _ => by simp
  | x :: l, 0, j, hj => by
    rw [List.flatMap_cons, Nat.zero_mul, Nat.zero_add, List.getElem?_append_left (by rw [hg]; exact hj)]
    simp
  | x :: l, i + 1, j, hj => by
    rw [List.flatMap_cons, List.getElem?_append_right (by rw [hg, Nat.add_mul]; omega), hg, show (i + 1) * size + j - size = i * size + j by rw [Nat.add_mul]; omega,
      flatMap_get g size hg l i j hj]
    simp
theorem flatMap_len {α β : Type} (g : α → List β) (size : Nat) (hg : ∀ x, (g x).length = size) : ∀ (l : List α), (l.flatMap g).length = l.length * size
  | [] => by simp
  | x :: l => by rw [List.flatMap_cons, List.length_append, hg, flatMap_len g size hg l, List.length_cons, Nat.add_mul]; omega

section
variable {H : Type} {enc : TypeId × Value → H} {P : Program} {w : World} {base : Nat} {spare : Nat → Bool} {held : Bool}
theorem rd_of_slice {t e : TypeId} {size : Nat} (hs : 0 < size) (ht : P.underlying t = some (.slice e)) (hC : P.cellsOf e = size) {A : Option Addr} {n c : Nat} {d : DataW H} {p : List MemPlace}
    (h : DataW.Trod enc P w base spare held t (.slice A n c) d p) :
    ∃ cs : Nat → List Value, (∀ i, (cs i).length = size) ∧ Rd w w.heap.size size A n ((List.range n).flatMap cs) ∧ n ≤ c ∧ c ≤ maxLen ∧
      ∀ i, i < n → ∃ fuel y, DataW.trod enc P w base spare held fuel e (cs i) = some y := by
  obtain ⟨fuel, hf⟩ := h
  rcases Go.Deep.open_slice ht hf with ⟨hcs, _⟩ | ⟨a, len, cap, m, k, D, Pl, hcs, hb, hl, hm, hmm, hx, hi⟩
  · simp only [Value.cells, List.cons.injEq, Value.slice.injEq, and_true] at hcs
    obtain ⟨rfl, rfl, rfl⟩ := hcs
    exact ⟨fun _ => List.replicate size undef, fun _ => by simp, Rd.nil_ _ _ _ _, Nat.le_refl _, by unfold maxLen; omega, fun i hi => absurd hi (by omega)⟩
  · simp only [Value.cells, List.cons.injEq, Value.slice.injEq, and_true] at hcs
    obtain ⟨rfl, rfl, rfl⟩ := hcs
    have hle : n ≤ m := by rw [hmm]; split <;> omega
    have hch : ∀ i, ∃ cs' : List Value, cs'.length = size ∧ (i < n → w.cells? base (a.add (i * size)) size = some cs' ∧ DataW.trod enc P w base spare held k e cs' = some (D i, Pl i)) := by
      intro i
      by_cases h : i < n
      · obtain ⟨cs', h1, h2⟩ := hi i (by omega)
        rw [hC] at h1
        exact ⟨cs', (World.cells?_some h1).2.1, fun _ => ⟨h1, h2⟩⟩
      · exact ⟨List.replicate size undef, by simp, fun h' => absurd h' h⟩
    obtain ⟨cs, hcs⟩ := Classical.axiomOfChoice hch
    refine ⟨cs, fun i => (hcs i).1, ⟨by rw [flatMap_len cs size (fun i => (hcs i).1), List.length_range], by omega, fun hn => ?_⟩, hl, hm, fun i hi' => ⟨k, _, ((hcs i).2 hi').2⟩⟩
    obtain ⟨hc0, _⟩ := (hcs 0).2 hn
    obtain ⟨_, _, hat⟩ := World.cells?_some hc0
    have h0 : ∃ v, w.cell? a = some v := by
      have h0 := hat 0 hs
      rw [Go.Deep.add_add, show 0 * size + 0 = 0 by omega, show a.add 0 = a from rfl, List.getElem?_eq_getElem (by rw [(hcs 0).1]; exact hs)] at h0
      exact ⟨_, h0⟩
    obtain ⟨v0, h0⟩ := h0
    obtain ⟨ha, hblk⟩ := cell_addr h0
    generalize a.block = b at ha hblk
    generalize a.off = off at ha
    subst ha
    refine ⟨b, off, rfl, hblk, fun j u hu => ?_⟩
    have hjl : j < n * size := by
      have := (List.getElem?_eq_some_iff.1 hu).1
      rwa [flatMap_len cs size (fun i => (hcs i).1), List.length_range] at this
    have hi1 : j / size < n := Nat.div_lt_of_lt_mul (by rw [Nat.mul_comm]; exact hjl)
    have hr1 : j % size < size := Nat.mod_lt _ hs
    have hj : j = j / size * size + j % size := by rw [Nat.mul_comm]; exact (Nat.div_add_mod j size).symm
    rw [hj, flatMap_get cs size (fun i => (hcs i).1) _ _ _ hr1, List.getElem?_range hi1] at hu
    obtain ⟨hci, _⟩ := (hcs (j / size)).2 hi1
    obtain ⟨_, _, hat'⟩ := World.cells?_some hci
    have h1 := hat' (j % size) hr1
    rw [Go.Deep.add_add, ← hj, add_none] at h1
    exact h1.trans hu
end

theorem bcell {W w1 : World} {B : Nat} (hb : Below B W w1) : (∀ b o, b < B → w1.cell? ⟨b, o, none⟩ = W.cell? ⟨b, o, none⟩) ∧ (∀ b o, b < B → w1.frozen? ⟨b, o, none⟩ = W.frozen? ⟨b, o, none⟩) :=
  ⟨fun b o h => hb.cell (p := ⟨b, o, none⟩) h, fun b o h => hb.frozen (p := ⟨b, o, none⟩) h⟩

theorem cell_new (w : World) (cs : Array Value) (t : TypeId) (i : Nat) : (w.alloc (.cells cs t)).cell? ⟨w.heap.size, i, none⟩ = cs[i]? := by
  unfold World.cell? World.alloc
  simp
theorem cell_old (w : World) (o : Obj) {b i : Nat} (h : b < w.heap.size) : (w.alloc o).cell? ⟨b, i, none⟩ = w.cell? ⟨b, i, none⟩ := World.cell?_alloc_lt w o ⟨b, i, none⟩ h

/-- make([]T, n, c), elements of several cells too -/
theorem run_make_rowN {P : Program} (t e : TypeId) (i : TypeInfo) (z : Value) (ht : P.underlying t = some (.slice e)) (hi : P.info? e = some i) (hz : i.zero = some z)
    (kl kc : IntKind) (n c : Nat) (hnc : n ≤ c) (hbytes : i.bytes * c ≤ 281474976710656) (h63 : c ≤ 9223372036854775807) (w : World) :
    (Instr.makeSlice t (.int kl (n : Int)) (.int kc (c : Int))).run P w = .ok (.slice (some ⟨w.heap.size, 0, none⟩) n c) (w.alloc (.cells (madeCells z.cells (c * i.size)) e)) := by
  have hb : (i.bytes : Int) * (c : Int) ≤ 281474976710656 := by
    have h : ((i.bytes * c : Nat) : Int) ≤ 281474976710656 := by omega
    rwa [Int.natCast_mul] at h
  have hr := run_make (P := P) w t e i z ht hi hz kl kc n c (by omega) (by omega) hb (by omega)
  simp only [Int.toNat_natCast] at hr
  exact hr

/-- a call hands back a new slice that owns these cells, and leaves what was there as it was -/
def RetOwn (w : World) (E size n : Nat) (xs : List Value) (e : Ending) (w' : World) : Prop := ∃ v, e = .returned v ∧ w'.ownsRow w.heap.size E size v n xs ∧ Below w.heap.size w w'

theorem madeCells_one (z : Value) (n : Nat) : (madeCells #[z] n).toList = List.replicate n z := toList_madeCells_one z n
/-- the row that make([]T, n) has just laid, T of one cell -/
theorem own_made (w : World) (B : Nat) (e : TypeId) (z : Value) (n : Nat) (hB : B ≤ w.heap.size) (hn : n ≤ maxLen) :
    (w.alloc (.cells (madeCells #[z] n) e)).ownsRow B e 1 (.slice (some ⟨w.heap.size, 0, none⟩) n n) n (List.replicate n z) :=
  ⟨by simp, .inr ⟨w.heap.size, n, _, rfl, hB, heap_alloc_new w _, Nat.le_refl _, hn, by rw [size_madeCells]; omega, by rw [madeCells_one, Nat.mul_one, List.take_of_length_le (by simp)]⟩⟩

theorem own_form {w : World} {base : Nat} {e : TypeId} {size : Nat} {v : Value} {n : Nat} {xs : List Value} (h : w.ownsRow base e size v n xs) :
    (v = .slice none 0 0 ∧ n = 0 ∧ xs = []) ∨ ∃ g cap, v = .slice (some ⟨g, 0, none⟩) n cap ∧ base ≤ g ∧ g < w.heap.size ∧ n ≤ maxLen := by
  have hl := h.1
  rcases h.2 with ⟨rfl, rfl⟩ | ⟨g, cap, cur, rfl, hb, hh, hnc, hcm, _⟩
  · exact .inl ⟨rfl, rfl, List.eq_nil_of_length_eq_zero (by simpa using hl)⟩
  · exact .inr ⟨g, cap, rfl, hb, (Array.getElem?_eq_some_iff.1 hh).1, by omega⟩
theorem own_slice {w : World} {base : Nat} {e : TypeId} {size : Nat} {v : Value} {n : Nat} {xs : List Value} (h : w.ownsRow base e size v n xs) : ∃ A c, v = .slice A n c := by
  rcases own_form h with ⟨rfl, rfl, _⟩ | ⟨g, cap, rfl, _⟩
  · exact ⟨_, _, rfl⟩
  · exact ⟨_, _, rfl⟩

/-- a literal row that has just been laid -/
theorem rd_new (w : World) (cs : Array Value) (t : TypeId) (n size : Nat) (h : cs.size = n * size) (hn : n ≤ maxLen) {B : Nat} (hB : w.heap.size < B) : Rd (w.alloc (.cells cs t)) B size (some ⟨w.heap.size, 0, none⟩) n cs.toList :=
  ⟨by simpa using h, hn, fun _ => ⟨w.heap.size, 0, rfl, hB, fun j u hu => by rw [Nat.zero_add, cell_new, ← hu, Array.getElem?_toList]⟩⟩

theorem hide {p : Prop} (h : p) : Hid p := h

/-! ### what a law's row asks -/
section
variable {H : Type} {enc : TypeId × Value → H} {P : Program}
theorem trodAll_stays (hl : laidOutB P = true) {W W' : World} (hb : Below W.heap.size W W') : ∀ (ts : List TypeId) (vs : List Value) (ds : List (DataW H)) (ps : List MemPlace),
    (∀ t ∈ ts, P.readableRec t = true ∧ t < P.types.size) → DataW.TrodAll enc P W 0 (fun _ => true) true ts vs ds ps → (∀ x ∈ ps, x.block < W.heap.size) →
    DataW.TrodAll enc P W' 0 (fun b => decide (b < W.heap.size)) true ts vs ds ps
  | [], vs, ds, ps, _, h, _ => by
    cases vs <;> cases ds <;> simp_all [DataW.TrodAll]
  | t :: ts, vs, ds, ps, ht, h, hlt => by
    obtain ⟨v, vs', d, ds', p, q, rfl, rfl, rfl, h0, h1⟩ := trodAll_cons h
    obtain ⟨hr, hrow⟩ := ht t (by simp)
    exact ⟨p, q, Below.trod hl hr hrow h0 hb (fun x hx => hlt x (List.mem_append.2 (.inl hx))),
      trodAll_stays hl hb ts vs' ds' q (fun t' h' => ht t' (by simp [h'])) h1 (fun x hx => hlt x (List.mem_append.2 (.inr hx))), rfl⟩

/-- a law that answers true and leaves what was there as it was meets its specification -/
theorem law_post {fn : Func} {s : ChangeSpec} {f : FuncId} (tb : TypeId) (hl : laidOutB P = true) (hv : s.vars = []) (hp : ∀ t ∈ fn.params.toList, P.readableRec t = true ∧ t < P.types.size)
    (hr : fn.resultTypes = #[tb]) (htb : P.underlying tb = some .bool) {W : World} {args : Array Value} {ds gs : List (DataW H)} {before : List MemPlace}
    (hs : (s.fn H ds).results = [.lit (.bool true)] ∧ (s.fn H ds).args = ds ∧ (s.fn H ds).vars = [])
    (hW : DataW.Whole enc P fn.params.toList s.vars false W args.toList ds gs before)
    (hc : Calls P f args W fun e W' => e = .returned (.bool true) ∧ Below W.heap.size W W') :
    Calls P f args W fun e W' => ∃ v, e = .returned v ∧ s.post enc P fn false true false false W args v W' := by
  have hW' := hW
  obtain ⟨p, q, hA, hV, rfl, hfz, hnd⟩ := hW
  rw [hv] at hV
  obtain ⟨rfl, rfl⟩ := trodVars_none hV
  have hlt : ∀ x ∈ p, x.block < W.heap.size := fun x hx => by simpa using hW'.lt x (List.mem_append.2 (.inl hx))
  refine hc.mono fun e W' ⟨he, hb⟩ => ⟨_, he, ds, [], _, [], p, [], hW', ?_, ?_, ?_, hb.frame _, fun h => by cases h⟩
  · rw [List.append_nil, hs.1, hr]
    exact trodAll_mk1 (shut_bool htb _)
  · rw [List.append_nil, hs.2.1]
    exact trodAll_stays hl hb _ _ _ _ hp hA hlt
  · rw [List.append_nil, hs.2.2, hv]
    rfl
end
end Go.Proofs.Ytkkhojealihghaa
