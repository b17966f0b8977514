/- Edits: what is read is one that may be, whose bytes they are; cut short it is too short. Plain laws. -/
import Derived.Test.YtedjolkkidciiaaEdRd
namespace Go.Proofs.Ytedjolkkidciiaa
open Go.RowKit

theorem getP_more {p : List UInt8} (h : (getP p).2.2 ≠ 4) (t : List UInt8) : getP (p ++ t) = getP p := by
  cases p with
  | nil => exact absurd rfl h
  | cons c p =>
    have hz1 : ¬ (c :: p).length = 0 := by simp
    have hz2 : ¬ (c :: p ++ t).length = 0 := by simp
    unfold getP at h ⊢
    rw [if_neg hz1] at h
    rw [if_neg hz1, if_neg hz2]
    have e0 : (c :: p ++ t).getD 0 0 = c := rfl
    have e1 : (c :: p).getD 0 0 = c := rfl
    rw [e0, e1]
    rw [e1] at h
    by_cases hl : (c :: p).length < lead c
    · rw [if_pos hl] at h
      exact absurd rfl h
    · have hl2 : ¬ (c :: p ++ t).length < lead c := by rw [List.length_append]; omega
      rw [if_neg hl, if_neg hl2]
      have hn : getNum (c :: p ++ t) (lead c) = getNum (c :: p) (lead c) := by
        unfold getNum
        rw [List.take_append_of_le_length (by omega)]
      rw [hn]
theorem getP_fit {p : List UInt8} (h : (getP p).2.2 = 0) : (getP p).2.1 ≤ p.length := by
  rcases getP_any p with ⟨_, h1, _⟩ | ⟨h1, _⟩
  · exact h1
  · exact absurd h (by omega)

/-- what is read of more bytes -/
def moreR {α : Type} (t : List UInt8) : Rdr α → Rdr α
  | .ok (a, l) => .ok (a, l ++ t)
  | .error e => .error e
def Stab {α : Type} (R : List UInt8 → Rdr α) : Prop := ∀ p t, R p ≠ .error 4 → R (p ++ t) = moreR t (R p)

theorem stab_num (least most : Nat) : Stab (rdNum least most) := by
  intro p t h
  unfold rdNum at h ⊢
  by_cases h0 : (getP p).2.2 = 0
  · rw [getP_more (by omega), if_pos h0, if_pos h0]
    split
    · rfl
    · show Except.ok _ = Except.ok _
      rw [List.drop_append_of_le_length (getP_fit h0)]
  · rw [if_neg h0] at h
    have h4 : (getP p).2.2 ≠ 4 := fun e => h (by rw [e])
    rw [getP_more h4, if_neg h0, if_neg h0]
    rfl
theorem stab_text (n : Nat) : Stab (rdText n) := by
  intro p t h
  unfold rdText at h ⊢
  by_cases hl : p.length < n
  · rw [if_pos hl] at h; exact absurd rfl h
  · rw [if_neg hl, if_neg (by rw [List.length_append]; omega)]
    show Except.ok _ = Except.ok _
    rw [List.drop_append_of_le_length (by omega), List.take_append_of_le_length (by omega)]
theorem stab_ok {α : Type} (x : α) : Stab fun l => .ok (x, l) := fun _ _ _ => rfl
theorem stab_err {α : Type} (e : Nat) : Stab (α := α) fun _ => .error e := fun _ _ _ => rfl
theorem stab_bind {α β : Type} {R : List UInt8 → Rdr α} {F : α → List UInt8 → Rdr β} (hR : Stab R) (hF : ∀ a, Stab (F a)) : Stab fun l => bindR (R l) F := fun p t h => by
  cases hp : R p with
  | error e =>
    have h : bindR (R p) F ≠ .error 4 := h
    rw [hp] at h
    show bindR (R (p ++ t)) F = moreR t (bindR (R p) F)
    rw [hR p t (by rw [hp]; exact fun he => h (by injection he with he; rw [he]; rfl)), hp]
    rfl
  | ok x =>
    obtain ⟨a, l⟩ := x
    have h : bindR (R p) F ≠ .error 4 := h
    rw [hp] at h
    show bindR (R (p ++ t)) F = moreR t (bindR (R p) F)
    rw [hR p t (by rw [hp]; intro h; cases h), hp]
    exact hF a l t h
theorem stab_ite {α : Type} {c : Prop} [Decidable c] {R S : List UInt8 → Rdr α} (hR : Stab R) (hS : Stab S) : Stab fun l => if c then R l else S l := by
  by_cases h : c
  · simp only [if_pos h]; exact hR
  · simp only [if_neg h]; exact hS
theorem stab_sl (id : Nat) : Stab (rdSl id) :=
  stab_bind (stab_num _ _) fun _ => stab_bind (stab_num _ _) fun _ => stab_bind (stab_num _ _) fun _ => stab_ite (stab_ok _) (stab_bind (stab_num _ _) fun _ => stab_bind (stab_num _ _) fun _ => stab_ok _)
theorem stab_sls : ∀ n id, Stab (rdSls n id)
  | 0, _ => stab_ok _
  | n + 1, id => stab_bind (stab_sl id) fun s => stab_bind (stab_sls n (s.id + 1)) fun _ => stab_ok _
theorem stab_seq (k : Int) : Stab (rdSeq k) := stab_ite (stab_num _ _) (stab_ok _)
theorem stab_name (k : Int) : Stab (rdName k) := stab_ite (stab_bind (stab_num _ _) fun n => stab_text n) (stab_ok _)
theorem stab_id (k : Int) : Stab (rdId k) := stab_ite (stab_num _ _) (stab_ok _)
theorem stab_many (k : Int) : Stab (rdMany k) := stab_ite (stab_ok _) (stab_ite (stab_num _ _) (stab_ok _))
/-- an edit, and what stands behind it -/
def rdG (l : List UInt8) : Rdr Ed :=
  bindR (rdText 1 l) fun c l =>
    if isKind ((c.getD 0 0).toNat : Int) = false then .error 5 else
      bindR (rdSeq ((c.getD 0 0).toNat : Int) l) fun seq l => bindR (rdName ((c.getD 0 0).toNat : Int) l) fun name l => bindR (rdId ((c.getD 0 0).toNat : Int) l) fun id l => bindR (rdMany ((c.getD 0 0).toNat : Int) l) fun many l => bindR (rdSls many 1 l) fun seals l => .ok (⟨((c.getD 0 0).toNat : Int), name, seq, id, seals⟩, l)
theorem stab_G : Stab rdG :=
  stab_bind (stab_text _) fun _ => stab_ite (stab_err _) (stab_bind (stab_seq _) fun _ => stab_bind (stab_name _) fun _ => stab_bind (stab_id _) fun _ => stab_bind (stab_many _) fun _ => stab_bind (stab_sls _ _) fun _ => stab_ok _)
def finG (x : Rdr Ed) : Except Nat Ed := bindR x fun d l => if 0 < l.length then .error 5 else .ok d
theorem finG_bind {α : Type} (x : Rdr α) (f : α → List UInt8 → Rdr Ed) : finG (bindR x f) = bindR x fun a l => finG (f a l) := by cases x <;> rfl
theorem finG_ite {c : Prop} [Decidable c] (x y : Rdr Ed) : finG (if c then x else y) = if c then finG x else finG y := by split <;> rfl
theorem rdEd_G (l : List UInt8) : rdEd l = finG (rdG l) := by
  unfold rdEd rdG
  simp only [finG_bind, finG_ite]
  rfl
/-- cut short anywhere, an edit's bytes are too short -/
theorem rdEd_cut {d : Ed} (hd : d.fits) (hm : mayEd d = true) {k : Nat} (hk : k < (edB d).length) : rdEd ((edB d).take k) = .error 4 := by
  have h0 := rdEd_put hd hm
  have e := List.take_append_drop k (edB d)
  have hlen : 0 < ((edB d).drop k).length := by rw [List.length_drop]; omega
  rw [← e, rdEd_G] at h0
  rw [rdEd_G]
  cases hg : rdG ((edB d).take k) with
  | error z =>
    by_cases h4 : z = 4
    · rw [h4]; rfl
    · rw [stab_G _ _ (by rw [hg]; intro h; injection h with h; exact h4 h), hg] at h0
      cases h0
  | ok x =>
    obtain ⟨d', l⟩ := x
    rw [stab_G _ _ (by rw [hg]; intro h; cases h), hg] at h0
    have h0 : (if 0 < (l ++ (edB d).drop k).length then Except.error 5 else Except.ok d') = Except.ok d := h0
    rw [if_pos (by rw [List.length_append]; omega)] at h0
    cases h0

theorem bind_is {α β : Type} {x : Rdr α} {f : α → List UInt8 → Except Nat β} {b : β} (h : bindR x f = .ok b) : ∃ a l, x = .ok (a, l) ∧ f a l = .ok b := by
  cases x with
  | ok y => exact ⟨y.1, y.2, rfl, h⟩
  | error e => cases h
theorem rdNum_is {least most : Nat} {l r : List UInt8} {n : Nat} (h : rdNum least most l = .ok (n, r)) : l = pform n ++ r ∧ least ≤ n ∧ n ≤ most := by
  obtain ⟨_, _, h1, h2, h3, _, _, h4⟩ := rdNum_ok h
  exact ⟨by rw [← h4, h3, List.take_append_drop], h1, h2⟩
theorem rdSl_is {id : Nat} (hid : 1 ≤ id) {l r : List UInt8} {s : Sl} (h : rdSl id l = .ok (s, r)) : l = slB s ++ r ∧ maySl s = true ∧ id ≤ s.id ∧ s.fits := by
  unfold rdSl at h
  obtain ⟨i, l1, a1, h⟩ := bind_is h
  obtain ⟨z, l2, a2, h⟩ := bind_is h
  obtain ⟨m, l3, a3, h⟩ := bind_is h
  obtain ⟨b1, b2, b3⟩ := rdNum_is a1
  obtain ⟨b4, b5, b6⟩ := rdNum_is a2
  obtain ⟨b7, b8, b9⟩ := rdNum_is a3
  by_cases h0 : m = 0
  · rw [if_pos h0] at h
    simp only [Except.ok.injEq, Prod.mk.injEq] at h
    obtain ⟨hs, rfl⟩ := h
    subst hs
    subst h0
    refine ⟨?_, maySl_iff.2 ?_, b2, ?_⟩
    · unfold slB
      dsimp only
      rw [if_pos rfl, List.append_nil, b1, b4, b7, List.append_assoc, List.append_assoc]
    · dsimp only; omega
    · unfold Sl.fits; dsimp only; omega
  · rw [if_neg h0] at h
    obtain ⟨f, l4, a4, h⟩ := bind_is h
    obtain ⟨d, l5, a5, h⟩ := bind_is h
    obtain ⟨c1, c2, c3⟩ := rdNum_is a4
    obtain ⟨c4, c5, c6⟩ := rdNum_is a5
    simp only [Except.ok.injEq, Prod.mk.injEq] at h
    obtain ⟨hs, rfl⟩ := h
    subst hs
    refine ⟨?_, maySl_iff.2 ?_, b2, ?_⟩
    · unfold slB
      dsimp only
      rw [if_neg h0, b1, b4, b7, c1, c4, show f + d - f = d by omega]
      simp only [List.append_assoc]
    · dsimp only; omega
    · unfold Sl.fits; dsimp only; omega
theorem rdSls_is : ∀ {n id : Nat}, 1 ≤ id → ∀ {l r : List UInt8} {s : List Sl}, rdSls n id l = .ok (s, r) → s.length = n ∧ l = s.flatMap slB ++ r ∧ maySls (id - 1) s = true ∧ ∀ x ∈ s, x.fits
  | 0, _, _, l, r, s, h => by
    simp only [rdSls, Except.ok.injEq, Prod.mk.injEq] at h
    obtain ⟨rfl, rfl⟩ := h
    exact ⟨rfl, rfl, rfl, fun x hx => by cases hx⟩
  | n + 1, id, hid, l, r, s, h => by
    rw [rdSls] at h
    obtain ⟨a, l1, a1, h⟩ := bind_is h
    obtain ⟨t, l2, a2, h⟩ := bind_is h
    simp only [Except.ok.injEq, Prod.mk.injEq] at h
    obtain ⟨rfl, rfl⟩ := h
    obtain ⟨b1, b2, b3, b4⟩ := rdSl_is hid a1
    obtain ⟨c1, c2, c3, c4⟩ := rdSls_is (by omega) a2
    refine ⟨by rw [List.length_cons, c1], ?_, ?_, ?_⟩
    · rw [b1, c2, List.flatMap_cons, List.append_assoc]
    · rw [maySls, b2, decide_eq_true (by omega : id - 1 < a.id), Bool.and_self, Bool.true_and]
      exact c3
    · intro x hx
      rcases List.mem_cons.1 hx with rfl | hx
      · exact b4
      · exact c4 x hx
theorem rdSeq_is {k : Int} {l r : List UInt8} {n : Nat} (h : rdSeq k l = .ok (n, r)) : l = (if hasSeq k then pform n else []) ++ r ∧ n ≤ 1099511627776 ∧ (hasSeq k = true ∨ n = 0) := by
  unfold rdSeq at h
  cases hk : hasSeq k with
  | true =>
    rw [if_pos hk] at h
    obtain ⟨h1, _, h3⟩ := rdNum_is h
    rw [if_pos rfl]
    exact ⟨h1, h3, Or.inl rfl⟩
  | false =>
    rw [if_neg (by rw [hk]; decide)] at h
    simp only [Except.ok.injEq, Prod.mk.injEq] at h
    obtain ⟨rfl, rfl⟩ := h
    exact ⟨rfl, by omega, Or.inr rfl⟩
theorem rdId_is {k : Int} {l r : List UInt8} {n : Nat} (h : rdId k l = .ok (n, r)) : l = (if hasId k then pform n else []) ++ r ∧ (hasId k = true → 1 ≤ n ∧ n ≤ 16777215) ∧ (hasId k = false → n = 0) := by
  unfold rdId at h
  cases hk : hasId k with
  | true =>
    rw [if_pos hk] at h
    obtain ⟨h1, h2, h3⟩ := rdNum_is h
    rw [if_pos rfl]
    exact ⟨h1, fun _ => ⟨h2, h3⟩, fun h => by cases h⟩
  | false =>
    rw [if_neg (by rw [hk]; decide)] at h
    simp only [Except.ok.injEq, Prod.mk.injEq] at h
    obtain ⟨rfl, rfl⟩ := h
    exact ⟨rfl, (fun h => by cases h), fun _ => rfl⟩
theorem rdText_is {n : Nat} {l r a : List UInt8} (h : rdText n l = .ok (a, r)) : l = a ++ r ∧ a.length = n := by
  unfold rdText at h
  split at h
  · cases h
  · simp only [Except.ok.injEq, Prod.mk.injEq] at h
    obtain ⟨rfl, rfl⟩ := h
    exact ⟨(List.take_append_drop _ _).symm, by rw [List.length_take]; omega⟩
theorem rdName_is {k : Int} {l r a : List UInt8} (h : rdName k l = .ok (a, r)) : l = (if hasName k then pform a.length ++ a else []) ++ r ∧ (hasName k = true → 1 ≤ a.length ∧ a.length ≤ 32) ∧ (hasName k = false → a = []) := by
  unfold rdName at h
  cases hk : hasName k with
  | true =>
    rw [if_pos hk] at h
    obtain ⟨n, l1, a1, h⟩ := bind_is h
    obtain ⟨b1, b2, b3⟩ := rdNum_is a1
    obtain ⟨c1, c2⟩ := rdText_is h
    rw [if_pos rfl, c2]
    exact ⟨by rw [b1, c1, List.append_assoc], fun _ => ⟨b2, b3⟩, fun h => by cases h⟩
  | false =>
    rw [if_neg (by rw [hk]; decide)] at h
    simp only [Except.ok.injEq, Prod.mk.injEq] at h
    obtain ⟨rfl, rfl⟩ := h
    exact ⟨rfl, (fun h => by cases h), fun _ => rfl⟩
theorem rdMany_is {k : Int} {l r : List UInt8} {n : Nat} (h : rdMany k l = .ok (n, r)) : l = (if k = 6 then pform n else []) ++ r ∧ n ≤ 200 ∧ (k = 5 → n = 1) ∧ (hasSeals k = false → n = 0) := by
  unfold rdMany at h
  by_cases h5 : k = 5
  · rw [if_pos h5] at h
    simp only [Except.ok.injEq, Prod.mk.injEq] at h
    obtain ⟨rfl, rfl⟩ := h
    subst h5
    exact ⟨rfl, by omega, fun _ => rfl, fun h => by cases h⟩
  · rw [if_neg h5] at h
    by_cases h6 : k = 6
    · rw [if_pos h6] at h
      obtain ⟨b1, b2, b3⟩ := rdNum_is h
      rw [if_pos h6]
      subst h6
      exact ⟨b1, b3, (fun h => by cases h), fun h => by cases h⟩
    · rw [if_neg h6] at h
      simp only [Except.ok.injEq, Prod.mk.injEq] at h
      obtain ⟨rfl, rfl⟩ := h
      rw [if_neg h6]
      exact ⟨rfl, by omega, fun h => absurd h h5, fun _ => rfl⟩
/-- what is read is an edit that may be, and these are its bytes -/
theorem rdEd_is {l : List UInt8} {d : Ed} (h : rdEd l = .ok d) : d.fits ∧ mayEd d = true ∧ edB d = l := by
  unfold rdEd at h
  obtain ⟨c, l1, a1, h⟩ := bind_is h
  obtain ⟨b1, b2⟩ := rdText_is a1
  obtain ⟨c0, rfl⟩ : ∃ c0, c = [c0] := by
    match c, b2 with
    | [x], _ => exact ⟨x, rfl⟩
  dsimp only at h
  rw [show ([c0] : List UInt8).getD 0 0 = c0 from rfl] at h
  generalize hk : ((c0.toNat : Nat) : Int) = k at h
  have hc0 := c0.toNat_lt
  have hk0 : UInt8.ofNat k.toNat = c0 := by rw [← hk]; simp
  cases hik : isKind k with
  | false => rw [if_pos hik] at h; cases h
  | true =>
    rw [if_neg (by rw [hik]; decide)] at h
    obtain ⟨seq, l2, a2, h⟩ := bind_is h
    obtain ⟨nm, l3, a3, h⟩ := bind_is h
    obtain ⟨id, l4, a4, h⟩ := bind_is h
    obtain ⟨mn, l5, a5, h⟩ := bind_is h
    obtain ⟨sl, l6, a6, h⟩ := bind_is h
    by_cases hl6 : 0 < l6.length
    · rw [if_pos hl6] at h; cases h
    · rw [if_neg hl6] at h
      injection h with h
      subst h
      have e6 : l6 = [] := List.eq_nil_of_length_eq_zero (by omega)
      subst e6
      obtain ⟨s1, s2, s3⟩ := rdSeq_is a2
      obtain ⟨n1, n2, n3⟩ := rdName_is a3
      obtain ⟨i1, i2, i3⟩ := rdId_is a4
      obtain ⟨m1, m2, m3, m4⟩ := rdMany_is a5
      obtain ⟨r1, r2, r3, r4⟩ := rdSls_is (Nat.le_refl 1) a6
      refine ⟨⟨by show seq < _; omega, ?_, ?_, r4⟩, ?_, ?_⟩
      · show id < _
        cases hh : hasId k with
        | true => have := i2 hh; omega
        | false => have := i3 hh; omega
      · show nm.length ≤ _
        cases hh : hasName k with
        | true => have := n2 hh; omega
        | false => rw [n3 hh]; simp
      · unfold mayEd
        dsimp only
        rw [hik, decide_eq_true s2]
        have q1 : (hasSeq k || decide (seq = 0)) = true := by rcases s3 with h | h <;> simp [h]
        have q2 : (if hasName k then decide (1 ≤ nm.length) && decide (nm.length ≤ 32) else decide (nm.length = 0)) = true := by
          cases hh : hasName k with
          | true => have := n2 hh; rw [if_pos rfl, decide_eq_true this.1, decide_eq_true this.2]; rfl
          | false => rw [n3 hh]; rfl
        have q3 : (if hasId k then decide (1 ≤ id) && decide (id ≤ 16777215) else decide (id = 0)) = true := by
          cases hh : hasId k with
          | true => have := i2 hh; rw [if_pos rfl, decide_eq_true this.1, decide_eq_true this.2]; rfl
          | false => rw [i3 hh]; rfl
        have q4 : (hasSeals k || decide (sl.length = 0)) = true := by
          cases hh : hasSeals k with
          | true => rfl
          | false => rw [r1, m4 hh]; rfl
        have q5 : (!(k == 5) || decide (sl.length = 1)) = true := by
          by_cases h5 : k = 5
          · rw [r1, m3 h5]; simp
          · simp [h5]
        rw [q1, q2, q3, q4, q5, decide_eq_true (by omega : sl.length ≤ 200), r3]
        rfl
      · unfold edB
        dsimp only
        rw [hk0, b1, s1, n1, i1, m1, r2, r1, List.append_nil]
        simp only [List.append_assoc]
theorem rdEd_err {l : List UInt8} {e : Nat} (h : rdEd l = .error e) : e = 4 ∨ e = 5 := by
  have hb : ∀ {α β : Type} {x : Rdr α} {f : α → List UInt8 → Except Nat β}, (∀ e, x = .error e → e = 4 ∨ e = 5) → (∀ a l e, f a l = .error e → e = 4 ∨ e = 5) → ∀ e, bindR x f = .error e → e = 4 ∨ e = 5 := by
    intro α β x f hx hf e h
    cases x with
    | ok y => exact hf _ _ e h
    | error z => exact hx e (by injection h with h; rw [h])
  have hT : ∀ n l e, rdText n l = .error e → e = 4 ∨ e = 5 := fun n l e h => by
    unfold rdText at h
    split at h
    · injection h with h; exact Or.inl h.symm
    · cases h
  have hO : ∀ {α : Type} (x : α) e, (Except.ok x : Except Nat α) = .error e → e = 4 ∨ e = 5 := fun x e h => by cases h
  have hE : ∀ {α : Type} e, (Except.error 5 : Except Nat α) = .error e → e = 4 ∨ e = 5 := fun e h => by injection h with h; exact Or.inr h.symm
  have hI : ∀ {α : Type} {c : Prop} [Decidable c] {x y : Except Nat α}, (∀ e, x = .error e → e = 4 ∨ e = 5) → (∀ e, y = .error e → e = 4 ∨ e = 5) → ∀ e, (if c then x else y) = .error e → e = 4 ∨ e = 5 := by
    intro α c _ x y hx hy e h
    split at h
    · exact hx e h
    · exact hy e h
  have hS : ∀ id l e, rdSl id l = .error e → e = 4 ∨ e = 5 := fun id l => by
    unfold rdSl
    exact hb (fun _ => rdNum_err) fun _ _ => hb (fun _ => rdNum_err) fun _ _ => hb (fun _ => rdNum_err) fun _ _ => hI (hO _) (hb (fun _ => rdNum_err) fun _ _ => hb (fun _ => rdNum_err) fun _ _ => hO _)
  have hSs : ∀ n id l e, rdSls n id l = .error e → e = 4 ∨ e = 5 := fun n => by
    induction n with
    | zero => intro id l; unfold rdSls; exact hO _
    | succ n ih => intro id l; unfold rdSls; exact hb (hS _ _) fun _ _ => hb (ih _ _) fun _ _ => hO _
  suffices H : ∀ e, rdEd l = .error e → e = 4 ∨ e = 5 from H e h
  unfold rdEd
  dsimp only
  refine hb (hT _ _) fun c l => hI hE ?_
  refine (hb (hI (fun _ => rdNum_err) (hO _)) fun _ _ => hb (hI (hb (fun _ => rdNum_err) fun _ _ => hT _ _) (hO _)) fun _ _ => hb (hI (fun _ => rdNum_err) (hO _)) fun _ _ => hb (hI (hO _) (hI (fun _ => rdNum_err) (hO _))) fun _ _ => hb (hSs _ _ _) fun _ _ => hI hE (hO _))
theorem slB_le (s : Sl) : (slB s).length ≤ 45 := by
  have h1 := psize_le s.id
  have h2 := psize_le s.size
  have h3 := psize_le s.many
  have h4 := psize_le s.first
  have h5 := psize_le (s.last - s.first)
  unfold slB
  split <;> simp only [List.length_append, pform_len, List.length_nil] <;> omega
theorem sls_le : ∀ l : List Sl, (l.flatMap slB).length ≤ l.length * 45
  | [] => Nat.le_refl _
  | s :: l => by
    have h1 := slB_le s
    have h2 := sls_le l
    rw [List.flatMap_cons, List.length_append, List.length_cons]
    omega
theorem edB_le (d : Ed) : (edB d).length ≤ 37 + d.name.length + d.seals.length * 45 := by
  have h1 := psize_le d.seq
  have h2 := psize_le d.name.length
  have h3 := psize_le d.id
  have h4 := psize_le d.seals.length
  have h5 := sls_le d.seals
  unfold edB
  simp only [List.length_append, List.length_singleton]
  have a1 : (if hasSeq d.kind then pform d.seq else []).length ≤ 9 := by split <;> simp only [pform_len, List.length_nil] <;> omega
  have a2 : (if hasName d.kind then pform d.name.length ++ d.name else []).length ≤ 9 + d.name.length := by split <;> simp only [List.length_append, pform_len, List.length_nil] <;> omega
  have a3 : (if hasId d.kind then pform d.id else []).length ≤ 9 := by split <;> simp only [pform_len, List.length_nil] <;> omega
  have a4 : (if d.kind = 6 then pform d.seals.length else []).length ≤ 9 := by split <;> simp only [pform_len, List.length_nil] <;> omega
  omega
end Go.Proofs.Ytedjolkkidciiaa
