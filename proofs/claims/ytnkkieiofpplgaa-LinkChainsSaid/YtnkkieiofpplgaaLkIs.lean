/- Records that are well linked, and what links are once they are added. Plain laws, for every such row. -/
import Derived.Test.YtnkkieiofpplgaaLkTwo
namespace Go.Proofs.Ytnkkieiofpplgaa
open Go.RowKit

/-- a record that the law adds -/
structure LR where
  at_ : Nat × Nat
  q : Nat
  k : Int
  c : UInt8
  pv : Nat × Nat
def locsOf (d : List LR) (c : UInt8) : List (Nat × Nat) := (d.filter fun r => r.c == c).map LR.at_
def seqOf (d : List LR) : Nat := (d.getLast?.map LR.q).getD 0
theorem seqOf_snoc (d : List LR) (r : LR) : seqOf (d ++ [r]) = r.q := by unfold seqOf; simp
theorem locsOf_snoc (d : List LR) (r : LR) (c : UInt8) : locsOf (d ++ [r]) c = if r.c = c then locsOf d c ++ [r.at_] else locsOf d c := by
  unfold locsOf
  rw [List.filter_append, List.map_append]
  by_cases h : r.c = c
  · simp [h]
  · simp [h]
/-- a record that fits behind others -/
structure Fit (d : List LR) (r : LR) : Prop where
  q : ∀ x ∈ d, x.q < r.q
  q0 : 1 ≤ r.q
  q1 : r.q ≤ 1099511627776
  a : ∀ x ∈ d, x.at_ ≠ r.at_
  st : standsB r.at_.1 r.at_.2 = true
  k : r.k = 1 ∨ r.k = 2
  pv : r.pv = ((locsOf d r.c).getLast?).getD (0, 0)
inductive Gd : List LR → Prop
  | nil : Gd []
  | snoc {d : List LR} {r : LR} : Gd d → Fit d r → Gd (d ++ [r])
def lastOf (d : List LR) (c : UInt8) : Option LR := (d.filter fun r => r.c == c).getLast?
def hdR (r : LR) : Nat × Nat × Nat × Int := (r.at_.1, r.at_.2, r.q, r.k)
theorem lastOf_snoc (d : List LR) (r : LR) (c : UInt8) : lastOf (d ++ [r]) c = if r.c = c then some r else lastOf d c := by
  unfold lastOf
  rw [List.filter_append]
  by_cases h : r.c = c
  · simp [h]
  · simp [h]
theorem locs_last (d : List LR) (c : UInt8) : (locsOf d c).getLast? = (lastOf d c).map LR.at_ := by
  unfold locsOf lastOf
  rw [List.getLast?_map]
theorem lastOf_mem {d : List LR} {c : UInt8} {r : LR} (h : lastOf d c = some r) : r ∈ d ∧ r.c = c := by
  have := List.mem_of_getLast? h
  simpa using this
theorem Gd.stands {d : List LR} (g : Gd d) : ∀ x ∈ d, standsB x.at_.1 x.at_.2 = true := by
  induction g with
  | nil => intro x hx; cases hx
  | snoc g f ih =>
    intro x hx
    rcases List.mem_append.1 hx with h | h
    · exact ih x h
    · rw [List.mem_singleton.1 h]; exact f.st
theorem stands_lok {a : Nat × Nat} (h : standsB a.1 a.2 = true) : LOk a := by
  unfold standsB at h
  have := of_decide_eq_true h
  exact ⟨by omega, by omega⟩
theorem Gd.get {d : List LR} (g : Gd d) : ∀ {i : Nat} {r : LR}, d[i]? = some r → Gd (d.take i) ∧ Fit (d.take i) r := by
  induction g with
  | nil => intro i r h; simp at h
  | @snoc d r0 g f ih =>
    intro i r h
    by_cases hi : i < d.length
    · rw [List.getElem?_append_left hi] at h
      rw [List.take_append_of_le_length (by omega)]
      exact ih h
    · have hlt := (List.getElem?_eq_some_iff.1 h).1
      rw [List.length_append] at hlt
      have : i = d.length := by simp at hlt; omega
      subst this
      rw [List.getElem?_append_right (Nat.le_refl _)] at h
      simp at h
      subst h
      rw [List.take_left]
      exact ⟨g, f⟩
/-- what links are, once records are added -/
structure Is (S : LS) (d : List LR) (wr : List (Nat × Nat)) : Prop where
  heads : ∀ c, mget S.heads [c] = (lastOf d c).map hdR
  only : ∀ p ∈ S.heads, ∃ c, p.1 = [c] ∧ ∃ r ∈ d, r.c = c
  ahead : S.ahead = (d.map fun r => (r.at_, r.pv)).reverse
  wrong : S.wrong = wr
  last : S.last = seqOf d
  hlen : S.heads.length ≤ d.length
theorem Is.nil : Is ⟨[], [], [], 0⟩ [] [] := ⟨fun _ => rfl, fun p hp => (by cases hp), rfl, rfl, rfl, Nat.le_refl _⟩
theorem Is.len {S : LS} {d : List LR} {wr : List (Nat × Nat)} (h : Is S d wr) : S.ahead.length = d.length := by rw [h.ahead]; simp
theorem Is.before {S : LS} {d : List LR} {wr : List (Nat × Nat)} (h : Is S d wr) (c : UInt8) : S.before [c] = ((locsOf d c).getLast?).getD (0, 0) := by
  unfold LS.before
  rw [h.heads, locs_last]
  cases lastOf d c <;> rfl
theorem Is.fresh {S : LS} {d : List LR} {wr : List (Nat × Nat)} (h : Is S d wr) {r : LR} (f : Fit d r) : mget S.ahead r.at_ = none := by
  cases hm : mget S.ahead r.at_ with
  | none => rfl
  | some p =>
    have := mget_some hm
    rw [h.ahead, List.mem_reverse, List.mem_map] at this
    obtain ⟨x, hx, he⟩ := this
    injection he with he1 he2
    exact (f.a x hx he1).elim
theorem Is.add {S : LS} {d : List LR} {wr : List (Nat × Nat)} (h : Is S d wr) {r : LR} (f : Fit d r) (p : Nat × Nat) (hp : mayL p.1 p.2 = true) :
    S.code r.at_ r.q r.k 1 0 p = 0 ∧ Is (S.add r.at_ r.q r.k [r.c] 0 p) (d ++ [r]) (if r.pv = p then wr else wr ++ [r.at_]) := by
  have hl : S.last < r.q := by
    rw [h.last]
    unfold seqOf
    cases hg : d.getLast? with
    | none => exact f.q0
    | some x => exact f.q x (List.mem_of_getLast? hg)
  have h0 : S.code r.at_ r.q r.k 1 0 p = 0 := by
    unfold LS.code LS.bad
    rw [h.fresh f]
    have e1 : mayR r.q r.k 1 0 p.1 p.2 = true := by
      unfold mayR kindR seqR
      rw [hp]
      have : decide (1 ≤ r.q) = true := decide_eq_true f.q0
      rw [this, decide_eq_true f.q1]
      rcases f.k with hk | hk <;> rw [hk] <;> rfl
    have e2 : mayL r.at_.1 r.at_.2 = true := by unfold mayL; rw [f.st]; simp
    have e3 : noneB r.at_.1 r.at_.2 = false := by
      have := f.st
      unfold standsB at this
      have := of_decide_eq_true this
      unfold noneB
      exact decide_eq_false (by omega)
    rw [e1, e2, e3, decide_eq_false (by omega : ¬ r.q ≤ S.last)]
    rfl
  refine ⟨h0, ?_⟩
  unfold LS.add
  rw [if_pos (show S.code r.at_ r.q r.k [r.c].length 0 p = 0 from h0)]
  have hb := h.before r.c
  rw [← f.pv] at hb
  have hah : mput r.at_ r.pv S.ahead = (((d ++ [r]).map fun r => (r.at_, r.pv))).reverse := by
    unfold mput
    rw [List.filter_eq_self.2, h.ahead]
    · simp
    · rintro ⟨x, y⟩ hx
      rw [h.ahead, List.mem_reverse, List.mem_map] at hx
      obtain ⟨z, hz, he⟩ := hx
      injection he with he1 he2
      subst he1
      exact decide_eq_true (f.a z hz)
  refine ⟨fun c => ?_, ?_, ?_, ?_, (seqOf_snoc d r).symm, ?_⟩
  · show mget (mput [r.c] (hdR r) S.heads) [c] = _
    rw [mget_put, lastOf_snoc]
    by_cases hc : r.c = c
    · subst hc
      simp
    · have : ¬ ([c] = [r.c]) := fun e => hc (by injection e with e _; exact e.symm)
      rw [if_neg this, if_neg hc]
      exact h.heads c
  · rintro ⟨x, y⟩ hx
    rcases mem_mput.1 hx with ⟨rfl, rfl⟩ | ⟨_, hx⟩
    · exact ⟨r.c, rfl, r, by simp, rfl⟩
    · obtain ⟨c, hc, z, hz, hzc⟩ := h.only _ hx
      exact ⟨c, hc, z, List.mem_append_left _ hz, hzc⟩
  · show mput r.at_ (S.before [r.c]) S.ahead = _
    rw [hb]
    exact hah
  · show (if S.before [r.c] = p then S.wrong else S.wrong ++ [r.at_]) = _
    rw [hb, h.wrong]
  · have h1 := mput_len [r.c] (hdR r) S.heads
    have h2 := h.hlen
    show (mput [r.c] (hdR r) S.heads).length ≤ _
    rw [List.length_append, List.length_singleton]
    omega
theorem Gd.pv_may {d : List LR} (g : Gd d) {r : LR} (f : Fit d r) : mayL r.pv.1 r.pv.2 = true := by
  rw [f.pv, locs_last]
  cases h : lastOf d r.c with
  | none => rfl
  | some x =>
    show mayL x.at_.1 x.at_.2 = true
    unfold mayL
    rw [g.stands x (lastOf_mem h).1]
    simp

/-! ### records without those of one key -/
def outR (d : List LR) (c : UInt8) : List LR := d.filter fun r => decide (r.c ≠ c)
theorem outR_snoc (d : List LR) (r : LR) (c : UInt8) : outR (d ++ [r]) c = if r.c = c then outR d c else outR d c ++ [r] := by
  unfold outR
  rw [List.filter_append]
  by_cases h : r.c = c
  · simp [h]
  · simp [h]
theorem lastOf_out (d : List LR) (c c' : UInt8) : lastOf (outR d c') c = if c = c' then none else lastOf d c := by
  unfold lastOf outR
  rw [List.filter_filter]
  by_cases h : c = c'
  · subst h
    rw [if_pos rfl, List.filter_eq_nil_iff.2]
    · rfl
    · intro x _
      simp
  · rw [if_neg h]
    congr 1
    refine List.filter_congr fun x _ => ?_
    by_cases hx : x.c = c
    · subst hx
      simp [h]
    · have : (x.c == c) = false := by simpa using hx
      simp [this]
theorem Fit.out {d : List LR} {r : LR} (f : Fit d r) {c : UInt8} (h : r.c ≠ c) : Fit (outR d c) r := by
  refine ⟨fun x hx => f.q x (List.mem_filter.1 hx).1, f.q0, f.q1, fun x hx => f.a x (List.mem_filter.1 hx).1, f.st, f.k, ?_⟩
  rw [f.pv, locs_last, locs_last, lastOf_out, if_neg h]
theorem outR_len (d : List LR) (c : UInt8) : (outR d c).length + (locsOf d c).length = d.length := by
  unfold locsOf outR
  rw [List.length_map]
  induction d with
  | nil => rfl
  | cons r d ih =>
    by_cases h : r.c = c
    · simp [h] at ih ⊢; omega
    · simp [h] at ih ⊢; omega

end Go.Proofs.Ytnkkieiofpplgaa
