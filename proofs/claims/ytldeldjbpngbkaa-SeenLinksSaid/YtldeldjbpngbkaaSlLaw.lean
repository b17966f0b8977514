/- SeenLinks, plainly: chains of records of a key, and what is seen at a number. Plain laws, for every row. -/
import Derived.Test.YtldeldjbpngbkaaLkIs
import Derived.Test.YtldeldjbpngbkaaByK
import Derived.Test.YtldeldjbpngbkaaSn2
namespace Go.Proofs.Ytldeldjbpngbkaa
open Go.RowKit
open Sn (Ver mayFrom mayFrom_step may_cnt cnt seqAt)

def rcs (d : List LR) (c : UInt8) : List LR := d.filter fun r => r.c == c
theorem rcs_snoc (d : List LR) (r : LR) (c : UInt8) : rcs (d ++ [r]) c = if r.c = c then rcs d c ++ [r] else rcs d c := by
  unfold rcs
  rw [List.filter_append]
  by_cases h : r.c = c
  · simp [h]
  · simp [h]
/-- the loc of the record ahead of place j -/
def atK (R : List LR) (j : Nat) : Nat × Nat := ((R.take j).getLast?.map LR.at_).getD (0, 0)
theorem atK_0 (R : List LR) : atK R 0 = (0, 0) := by simp [atK]
theorem atK_succ {R : List LR} {j : Nat} {r : LR} (h : R[j]? = some r) : atK R (j + 1) = r.at_ := by
  unfold atK
  rw [List.take_add_one, h]
  simp
theorem atK_len (R : List LR) : atK R R.length = (R.getLast?.map LR.at_).getD (0, 0) := by unfold atK; rw [List.take_length]
theorem Gd.chain {d : List LR} (g : Gd d) (c : UInt8) : ∀ {j : Nat} {r : LR}, (rcs d c)[j]? = some r → r.pv = atK (rcs d c) j := by
  induction g with
  | nil => intro j r h; simp [rcs] at h
  | @snoc d r0 g f ih =>
    intro j r h
    rw [rcs_snoc] at h ⊢
    by_cases hc : r0.c = c
    · rw [if_pos hc] at h ⊢
      by_cases hj : j < (rcs d c).length
      · rw [List.getElem?_append_left hj] at h
        rw [ih h]
        unfold atK
        rw [List.take_append_of_le_length (by omega)]
      · have hlt := (List.getElem?_eq_some_iff.1 h).1
        rw [List.length_append] at hlt
        have : j = (rcs d c).length := by simp at hlt; omega
        subst this
        rw [List.getElem?_append_right (Nat.le_refl _)] at h
        simp at h
        subst h
        unfold atK
        rw [List.take_left, f.pv, locs_last, hc]
        rfl
    · rw [if_neg hc] at h ⊢
      exact ih h
theorem rcs_last (d : List LR) (c : UInt8) : lastOf d c = (rcs d c).getLast? := rfl
theorem rcs_mem {d : List LR} {c : UInt8} {r : LR} (h : r ∈ rcs d c) : r ∈ d ∧ r.c = c := by
  unfold rcs at h
  simpa using h
theorem Is.ahead_get {S : LS} {d : List LR} {wr : List (Nat × Nat)} (h : Is S d wr) (g : Gd d) {r : LR} (hr : r ∈ d) : mget S.ahead r.at_ = some r.pv := by
  rw [h.ahead]
  clear h
  induction g with
  | nil => cases hr
  | @snoc d r0 g f ih =>
    rw [List.map_append, List.reverse_append]
    show mget ((r0.at_, r0.pv) :: (d.map fun r => (r.at_, r.pv)).reverse) r.at_ = _
    unfold mget
    rw [List.find?_cons]
    rcases List.mem_append.1 hr with h | h
    · have : decide (r0.at_ = r.at_) = false := decide_eq_false fun e => f.a r h e.symm
      rw [this]
      exact ih h
    · rw [List.mem_singleton.1 h]
      simp
/-- the versions of records -/
def verL (R : List LR) : List Ver := R.map fun r => ((r.q : Int), 1)
theorem verL_len (R : List LR) : (verL R).length = R.length := by unfold verL; rw [List.length_map]
theorem may_snoc : ∀ (l : List Ver) (a : Int) (v : Ver), mayFrom a l = true → (∀ x ∈ l, x.1 < v.1) → a < v.1 → v.1 ≤ 1099511627776 → v.2 = 1 → mayFrom a (l ++ [v]) = true
  | [], a, v, _, _, h1, h2, h3 => by
    obtain ⟨x, y⟩ := v
    dsimp only at h1 h2 h3
    subst h3
    show mayFrom a [(x, 1)] = true
    rw [mayFrom_step]
    simp [h1, h2, mayFrom]
  | (x, y) :: l, a, v, h, hl, h1, h2, h3 => by
    rw [List.cons_append, mayFrom_step]
    rw [mayFrom_step] at h
    simp only [Bool.and_eq_true, decide_eq_true_eq] at h
    obtain ⟨⟨⟨k1, k2⟩, k3⟩, k4⟩ := h
    have := may_snoc l x v k4 (fun z hz => hl z (List.mem_cons_of_mem _ hz)) (hl (x, y) (List.mem_cons_self ..)) h2 h3
    rw [this, k3]
    simp [k1, k2]
theorem Gd.may {d : List LR} (g : Gd d) (c : UInt8) : Sn.mayB (verL (rcs d c)) = true := by
  unfold Sn.mayB
  induction g with
  | nil => rfl
  | @snoc d r0 g f ih =>
    rw [rcs_snoc]
    by_cases hc : r0.c = c
    · rw [if_pos hc]
      unfold verL at ih ⊢
      rw [List.map_append]
      refine may_snoc _ 0 ((r0.q : Int), 1) ih (fun x hx => ?_) ?_ ?_ rfl
      · obtain ⟨r, hr, rfl⟩ := List.mem_map.1 hx
        have := f.q r (rcs_mem hr).1
        show (r.q : Int) < (r0.q : Int)
        omega
      · have := f.q0
        show (0 : Int) < (r0.q : Int)
        omega
      · have := f.q1
        show (r0.q : Int) ≤ _
        omega
    · rw [if_neg hc]
      exact ih
theorem cnt_at {R : List LR} (h : Sn.mayB (verL R) = true) (s : Int) {k : Nat} {r : LR} (hk : R[k]? = some r) : (r.q : Int) ≤ s ↔ k < cnt (verL R) s := by
  have hl := (List.getElem?_eq_some_iff.1 hk).1
  have := may_cnt h s k (by rw [verL_len]; exact hl)
  rw [← this]
  have e : seqAt (verL R) k = (r.q : Int) := by
    unfold seqAt verL
    simp [List.getD, hk]
  rw [e]

/-! ### the law's records -/
def nextS (d : List LR) (b : UInt8) : LR := ⟨(1, 16 + 30 * d.length), d.length + 1, 1, UInt8.ofNat (97 + b.toNat % 8), ((locsOf d (UInt8.ofNat (97 + b.toNat % 8))).getLast?).getD (0, 0)⟩
def seR (l : List UInt8) : List LR := l.foldl (fun d b => d ++ [nextS d b]) []
theorem seR_snoc (l : List UInt8) (b : UInt8) : seR (l ++ [b]) = seR l ++ [nextS (seR l) b] := by unfold seR; rw [List.foldl_append]; rfl
theorem seR_len (l : List UInt8) : (seR l).length = l.length := by
  have h : ∀ (l : List UInt8) (d : List LR), (l.foldl (fun d b => d ++ [nextS d b]) d).length = d.length + l.length := by
    intro l
    induction l with
    | nil => intro d; rfl
    | cons s r ih => intro d; rw [List.foldl_cons, ih]; simp; omega
  unfold seR
  rw [h]
  simp
theorem seR_at {n : Nat} {l : List UInt8} (h : ∀ x ∈ seR l, ∃ i, i < n ∧ x.at_ = (1, 16 + 30 * i) ∧ x.q = i + 1) : ∀ x ∈ seR l, x.at_.2 + 14 = 30 * x.q := fun x hx => by
  obtain ⟨i, _, ha, hq⟩ := h x hx
  rw [ha, hq]
  show 16 + 30 * i + 14 = 30 * (i + 1)
  omega
theorem seR_gd : ∀ (n : Nat) (l : List UInt8), l.length = n → n ≤ 60 → Gd (seR l) ∧ ∀ x ∈ seR l, ∃ i, i < n ∧ x.at_ = (1, 16 + 30 * i) ∧ x.q = i + 1
  | 0, l, hl, _ => by
    have : l = [] := List.eq_nil_of_length_eq_zero hl
    subst this
    exact ⟨Gd.nil, fun x hx => (by cases hx)⟩
  | n + 1, l, hl, hn => by
    have hne : l ≠ [] := fun e => by rw [e] at hl; simp at hl
    have he := List.dropLast_concat_getLast hne
    obtain ⟨h1, h2⟩ := seR_gd n l.dropLast (by rw [List.length_dropLast]; omega) (by omega)
    rw [← he, seR_snoc]
    have hdl : (seR l.dropLast).length = n := by rw [seR_len, List.length_dropLast]; omega
    generalize l.getLast hne = s at *
    generalize seR l.dropLast = d at *
    have hf : Fit d (nextS d s) := by
      refine ⟨fun x hx => ?_, ?_, ?_, fun x hx => ?_, ?_, .inl rfl, rfl⟩
      · obtain ⟨i, hi, _, hq⟩ := h2 x hx
        show x.q < d.length + 1
        omega
      · show 1 ≤ d.length + 1
        omega
      · show d.length + 1 ≤ _
        omega
      · obtain ⟨i, hi, ha, _⟩ := h2 x hx
        rw [ha]
        intro e
        injection e with _ e
        omega
      · show standsB 1 (16 + 30 * d.length) = true
        unfold standsB
        exact decide_eq_true (by omega)
    refine ⟨h1.snoc hf, fun x hx => ?_⟩
    rcases List.mem_append.1 hx with h | h
    · obtain ⟨i, hi, ha⟩ := h2 x h
      exact ⟨i, by omega, ha⟩
    · rw [List.mem_singleton.1 h]
      exact ⟨n, by omega, by show (1, 16 + 30 * d.length) = _; rw [hdl], by show d.length + 1 = _; rw [hdl]⟩
/-- numbers by locs -/
def seqsTo (M : List ((Nat × Nat) × Nat)) (d : List LR) : Prop := ∀ r ∈ d, mget M r.at_ = some r.q
theorem seqsTo.put {M : List ((Nat × Nat) × Nat)} {d : List LR} (h : seqsTo M d) {r : LR} (f : Fit d r) : seqsTo (mput r.at_ r.q M) (d ++ [r]) := by
  intro x hx
  rw [mget_put]
  rcases List.mem_append.1 hx with h1 | h1
  · rw [if_neg (f.a x h1)]
    exact h x h1
  · rw [List.mem_singleton.1 h1, if_pos rfl]

theorem atK_lt {R : List LR} (hR : ∀ r ∈ R, 16 ≤ r.at_.2) (hs : ∀ (i j : Nat) (x y : LR), R[i]? = some x → R[j]? = some y → i < j → x.at_.2 < y.at_.2) {j : Nat} {r : LR} (h : R[j]? = some r) : (atK R j).2 < (atK R (j + 1)).2 := by
  rw [atK_succ h]
  cases j with
  | zero =>
    rw [atK_0]
    have := hR r (List.mem_of_getElem? h)
    show 0 < r.at_.2
    omega
  | succ i =>
    have hi : i < R.length := by have := (List.getElem?_eq_some_iff.1 h).1; omega
    rw [atK_succ (List.getElem?_eq_getElem hi)]
    exact hs i (i + 1) _ _ (List.getElem?_eq_getElem hi) h (by omega)
theorem Gd.rises {d : List LR} (g : Gd d) (c : UInt8) : ∀ (i j : Nat) (x y : LR), (rcs d c)[i]? = some x → (rcs d c)[j]? = some y → i < j → x.q < y.q := by
  induction g with
  | nil => intro i j x y h; simp [rcs] at h
  | @snoc d r0 g f ih =>
    intro i j x y hx hy hij
    rw [rcs_snoc] at hx hy
    by_cases hc : r0.c = c
    · rw [if_pos hc] at hx hy
      have hlt := (List.getElem?_eq_some_iff.1 hy).1
      rw [List.length_append, List.length_singleton] at hlt
      rw [List.getElem?_append_left (by omega)] at hx
      by_cases hj : j < (rcs d c).length
      · rw [List.getElem?_append_left hj] at hy
        exact ih i j x y hx hy hij
      · have : j = (rcs d c).length := by omega
        subst this
        rw [List.getElem?_append_right (Nat.le_refl _)] at hy
        simp at hy
        subst hy
        exact f.q x (rcs_mem (List.mem_of_getElem? hx)).1
    · rw [if_neg hc] at hx hy
      exact ih i j x y hx hy hij
theorem Gd.fit_q {d : List LR} (g : Gd d) : ∀ x ∈ d, 1 ≤ x.q := by
  induction g with
  | nil => intro x hx; cases hx
  | snoc g f ih =>
    intro x hx
    rcases List.mem_append.1 hx with h | h
    · exact ih x h
    · rw [List.mem_singleton.1 h]; exact f.q0
theorem mget_mem {α β : Type} [DecidableEq α] {D : List (α × β)} (hn : (D.map (·.1)).Nodup) {a : α} {c : β} (h : (a, c) ∈ D) : mget D a = some c := by
  cases hg : mget D a with
  | none => exact absurd h (mget_none hg)
  | some c' => rw [nodup_snd hn (mget_some hg) h]

/-! ### links beside rows and maps -/
section
variable {w : World} {B g bh ba : Nat} {v : Value} {S : LS}
theorem Lk.ne_own {B' e size n : Nat} {u : Value} {xs : List Value} (h : Lk w B g bh ba v S) (o : Ow w B' e size u n xs) (h1 : e ≠ 54) (h2 : e ≠ 29) {j : Nat} (hj : u.ownBlock = some j) : some j ∉ lkF g bh ba v := by
  obtain ⟨_, _, _, _, q, mh, ma, ow⟩ := h
  intro hm
  simp only [lkF, List.mem_cons, List.not_mem_nil, or_false] at hm
  rcases hm with hm | hm | hm | hm
  · injection hm with hm
    subst hm
    exact own_blk_ne q o (Ne.symm h1) hj.symm
  · exact mpo_ne mh.1 o (hm.symm.trans hj.symm)
  · exact mpo_ne ma.1 o (hm.symm.trans hj.symm)
  · rcases own_own_ne ow o h2 with h3 | h3
    · rw [h3] at hj; cases hj
    · exact h3 (hj.trans hm)
theorem Lk.ne_map {k : TypeId} {b : Nat} {L : List (Value × Value)} (h : Lk w B g bh ba v S) (hm : Mp Try.prog k w b L) (h1 : b ≠ bh) (h2 : b ≠ ba) : some b ∉ lkF g bh ba v := by
  obtain ⟨_, _, _, _, q, mh, ma, ow⟩ := h
  intro h3
  simp only [lkF, List.mem_cons, List.not_mem_nil, or_false, Option.some.injEq] at h3
  rcases h3 with h3 | h3 | h3 | h3
  · exact mpb_ne hm q h3
  · exact h1 h3
  · exact h2 h3
  · exact mpo_ne hm ow h3
theorem Lk.grown {w' : World} {B' e size n : Nat} {u : Value} {xs : List Value} (h : Lk w B g bh ba v S) (o : Ow w B' e size u n xs) (h1 : e ≠ 54) (h2 : e ≠ 29) (hg : w.grownBy w' u.ownBlock) : Lk w' B g bh ba v S :=
  h.kp (Kp.grown hg) fun _ hj hm => h.ne_own o h1 h2 (List.mem_singleton.1 hm).symm hj
theorem Lk.setB {k : TypeId} {b : Nat} {L : List (Value × Value)} (h : Lk w B g bh ba v S) (hm : Mp Try.prog k w b L) (h1 : b ≠ bh) (h2 : b ≠ ba) (o : Obj) : Lk (Go.ChangeMaps.setBlock w b o) B g bh ba v S :=
  h.kp (Kp.setBlock w b o) fun _ hj hx => h.ne_map hm h1 h2 (by rw [← List.mem_singleton.1 hx]; exact hj)
end
end Go.Proofs.Ytldeldjbpngbkaa
