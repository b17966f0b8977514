/- The document's edits: Put. For every edit. -/
import Derived.Test.YtedjolkkidciiaaEd10a
import Derived.Test.YtedjolkkidciiaaEdR3
import Derived.Test.YtedjolkkidciiaaGR
namespace Go.Proofs.Ytedjolkkidciiaa
open Go.RowKit
attribute [local go_sem] Oper.semAt_some

def opt (b : Bool) (l : List UInt8) : List UInt8 := match b with | true => l | false => []
/-- the bytes so far -/
def RPut (w : World) (E : Array Value) (L : List UInt8) (v : Value) (wx : World) : Prop :=
  ∃ A m c, v = .slice A m c ∧ m = L.length ∧ Ow wx w.heap.size 5 1 (.slice A m c) m (bcells L) ∧ Blk wx w.heap.size 32 E ∧ Below w.heap.size w wx
theorem RPut.same {w wx : World} {E : Array Value} {L L' : List UInt8} {v : Value} (h : RPut w E L v wx) (e : L' = L) : RPut w E L' v wx := by subst e; exact h
def RetPutR (w : World) (d : Ed) (e : Ending) (w' : World) : Prop :=
  ∃ v, e = .returned (.tuple #[v, .int .i64 (if mayEd d then 0 else 1)]) ∧ w'.ownsRow w.heap.size 5 1 v (if mayEd d then edB d else []).length (bcells (if mayEd d then edB d else [])) ∧ Below w.heap.size w w'
theorem mayEd_bounds {d : Ed} (h : mayEd d = true) : d.name.length ≤ 32 ∧ d.seals.length ≤ 200 := by
  unfold mayEd at h
  simp only [Bool.and_eq_true] at h
  obtain ⟨⟨⟨⟨⟨⟨⟨⟨_, _⟩, _⟩, h1⟩, _⟩, _⟩, _⟩, h2⟩, _⟩ := h
  refine ⟨?_, by simpa using h2⟩
  split at h1
  · simp at h1; omega
  · simp at h1; simp [h1]
theorem mayEd_sls {d : Ed} (h : mayEd d = true) : maySls 0 d.seals = true := by
  unfold mayEd at h
  simp only [Bool.and_eq_true] at h
  exact h.2
theorem maySls_sub {l : List Sl} {p : Nat} (h : maySls p l = true) {s : Sl} (hs : s ∈ l) : 0 < s.many → s.first ≤ s.last := fun h0 => by
  have := maySls_mem h s hs
  unfold maySl at this
  rw [if_neg (by omega)] at this
  simp at this
  omega
theorem isKind_of' {d : Ed} (h : mayEd d = true) : 1 ≤ d.kind ∧ d.kind ≤ 6 := by
  unfold mayEd at h
  simp only [Bool.and_eq_true] at h
  obtain ⟨⟨⟨⟨⟨⟨⟨⟨h1, _⟩, _⟩, _⟩, _⟩, _⟩, _⟩, _⟩, _⟩ := h
  unfold isKind at h1
  simp at h1
  exact h1
theorem edB_cut (k : Int) (nm : List UInt8) (seq id : Nat) (sl : List Sl) : edB ⟨k, nm, seq, id, sl⟩ = [UInt8.ofNat k.toNat] ++ opt (hasSeq k) (pform seq) ++ opt (hasName k) (pform nm.length ++ nm) ++ opt (hasId k) (pform id) ++ opt (decide (k = 6)) (pform sl.length) ++ sl.flatMap slB := by
  unfold edB
  dsimp only
  cases hasSeq k <;> cases hasName k <;> cases hasId k <;> by_cases h : k = 6 <;> simp [h, opt]
theorem slB_cut (i0 i1 i2 i3 i4 : Nat) : slB (Sl.mk i0 i1 i2 i3 i4) = pform i0 ++ pform i1 ++ pform i2 ++ opt (decide (0 < i2)) (pform i3 ++ pform (i4 - i3)) := by
  unfold slB
  by_cases h : i2 = 0
  · subst h; rfl
  · have : 0 < i2 := by omega
    simp [h, this, opt]

set_option maxRecDepth 100000 in
set_option maxHeartbeats 8000000 in
theorem rputE_yes (k : Int) (nm : List UInt8) (S : ByteArray) (hS : S = ⟨nm.toArray⟩) (seq id : Nat) (sl : List Sl) (A : Option Addr) (n c : Nat) (w : World) (hn : sl.length = n) (hfit : Ed.fits ⟨k, nm, seq, id, sl⟩)
    (hr : Rd w w.heap.size 5 A n (slCells sl)) (hnc : n ≤ c) (hm : mayEd ⟨k, nm, seq, id, sl⟩ = true) :
    Calls Try.prog 19 #[.agg #[.int .i64 k, .string S, .int .u64 (seq : Int), .int .u32 (id : Int), .slice A n c]] w fun e w' => ∃ v, e = .returned (.tuple #[v, .int .i64 0]) ∧ w'.ownsRow w.heap.size 5 1 v (edB ⟨k, nm, seq, id, sl⟩).length (bcells (edB ⟨k, nm, seq, id, sl⟩)) ∧ Below w.heap.size w w' := by
  have hSz : S.size = nm.length := by rw [hS]; simp [ByteArray.size]
  have hSS : Lib.strCells S = bcells nm := by rw [hS]; rfl
  obtain ⟨f1, f2, f3, f4⟩ := hfit
  dsimp only at f1 f2 f3 f4
  have hk := isKind_of' hm
  have hb0 := mayEd_bounds hm
  dsimp only at hk hb0
  obtain ⟨z1, z2⟩ := hb0
  have q1 := Blk.new w 32 #[.int .i64 k, .string S, .int .u64 (seq : Int), .int .u32 (id : Int), .slice A n c]
  have hb := (Below.refl w.heap.size w).alloc (Nat.le_refl _) (.cells #[.int .i64 k, .string S, .int .u64 (seq : Int), .int .u32 (id : Int), .slice A n c] 32)
  have HMS := Lib.hid (mayEd_sls hm)
  have MA := rmayE_any k nm S hS seq id sl A n c (w.alloc (.cells #[.int .i64 k, .string S, .int .u64 (seq : Int), .int .u32 (id : Int), .slice A n c] 32)) hn f1 f2 f3 f4 ((hr.below hb (Nat.le_refl _)).more hb.size) hnc
  rw [hm] at MA
  have MA := Lib.hid MA
  have PA := fun W => Lib.hid (rparts_any k W)
  unfold partsV at PA
  obtain ⟨hs, h1⟩ : ∃ h, h = hasSeq k := ⟨_, rfl⟩
  obtain ⟨hq, h2⟩ : ∃ h, h = hasName k := ⟨_, rfl⟩
  obtain ⟨hi, h3⟩ : ∃ h, h = hasId k := ⟨_, rfl⟩
  obtain ⟨hl, h4⟩ : ∃ h, h = hasSeals k := ⟨_, rfl⟩
  obtain ⟨h6, h5⟩ : ∃ h, h = decide (k = 6) := ⟨_, rfl⟩
  have hed := edB_cut k nm seq id sl
  rw [← h1, ← h2, ← h3, ← h5, hn] at hed
  rw [← h1, ← h2, ← h3, ← h4] at PA
  have k6 : (k == 6) = h6 := h5.symm
  rw [hn] at z2
  have HK := Lib.hid hk
  obtain ⟨kn, hkn⟩ : ∃ x : Nat, x = k.toNat := ⟨_, rfl⟩
  have hkk : k = (kn : Int) := by omega
  have hk6 : kn ≤ 6 := by omega
  have HHR := Lib.hid hr
  have F4 := Lib.hid f4
  obtain ⟨D, hD⟩ : ∃ D, D = edB ⟨k, nm, seq, id, sl⟩ := ⟨_, rfl⟩
  rw [← hD] at hed ⊢
  have HED := Lib.hid hed
  have HSS := Lib.hid hSS
  have HSL := Lib.hid hn
  clear h1 h2 h3 h4 h5 hk hed hm hr f4 hS hSS hD hn
  subst hkk
  rw [show ((kn : Int)).toNat = kn from rfl] at HED
  clear hkn
  go_enter Try.func19, Try.ntmps19
  go_upto_region 1 with (fail)
  generalize w.alloc (.cells #[.int .i64 (kn : Int), .string S, .int .u64 (seq : Int), .int .u32 (id : Int), .slice A n c] 32) = w1 at *
  have Q1 := Lib.hid q1
  have HB := Lib.hid hb
  go_wp2_with (first
    | (refine wpList_value rfl (exec_load_blk rfl rfl Q1.out Try.underlying32 rfl (by kernel_rfl)) ?_)
    | fail)
  refine MA.out.mono ?_
  rintro e w2 ⟨rfl, b2⟩
  have HB := Lib.hid (belowGo HB.out b2)
  have Q1 := Lib.hid (Q1.out.after b2)
  clear q1 hb b2 MA
  have PA2 := PA (w2.alloc (.cells #[.int .u8 (kn : Int)] 5))
  have c0 : w2.cell? ⟨w.heap.size, 0, none⟩ = some (.int .i64 (kn : Int)) := Q1.out.cell 0
  have hu8 : IntKind.u8.wrap (kn : Int) = (kn : Int) := by rw [IntKind.wrap_u8]; omega
  have hbc : bcells [UInt8.ofNat kn] = [.int .u8 (kn : Int)] := by
    have : (UInt8.ofNat kn).toNat = kn := by rw [UInt8.toNat_ofNat']; omega
    unfold bcells
    simp [this]
  go_upto_region 4 with (fail)
  have ol : Ow (w2.alloc (.cells #[.int .u8 (kn : Int)] 5)) w.heap.size 5 1 (.slice (some ⟨w2.heap.size, 0, none⟩) 1 1) 1 (bcells [UInt8.ofNat kn]) := by
    rw [hbc]
    exact own_lit1 w2 5 #[.int .u8 (kn : Int)] 1 HB.out.size rfl (by unfold maxLen; omega)
  have Q1 := Lib.hid (Q1.out.alloc (.cells #[.int .u8 (kn : Int)] 5))
  have HB := Lib.hid (HB.out.alloc HB.out.size (.cells #[.int .u8 (kn : Int)] 5))
  have O : Hid (Ow _ _ _ _ _ _ _) := Lib.hid ol
  generalize hwa : w2.alloc (.cells #[.int .u8 (kn : Int)] 5) = wa at *
  have HPA := fun W => PA W
  clear hwa c0 hbc ol hu8 PA
  obtain ⟨A0, hA0⟩ : ∃ A0 : Option Addr, A0 = some ⟨w2.heap.size, 0, none⟩ := ⟨_, rfl⟩
  rw [← hA0] at O ⊢
  clear hA0
  have c0 : wa.cell? ⟨w.heap.size, 0, none⟩ = some (.int .i64 (kn : Int)) := Q1.out.cell 0
  go_wp2_with fail
  refine PA2.out.mono ?_
  rintro e w3 ⟨rfl, rfl⟩
  clear PA2 c0
  obtain ⟨L0, hL0⟩ : ∃ L, L = [UInt8.ofNat kn] := ⟨_, rfl⟩
  rw [← hL0] at O HED
  have l0 : 1 = L0.length := by rw [hL0]; rfl
  have LL0 := Lib.hid l0
  clear hL0 l0
  have c0 : wa.cell? ⟨w.heap.size, 0, none⟩ = some (.int .i64 (kn : Int)) := Q1.out.cell 0
  go_upto_if 26 with (fail)
  go_cut [4] from 26 to 30 (fun v wx => RPut w #[.int .i64 (kn : Int), .string S, .int .u64 (seq : Int), .int .u32 (id : Int), .slice A n c] (L0 ++ opt hs (pform seq)) v wx)
  case first =>
    have c0 : wa.cell? ⟨w.heap.size, 0, none⟩ = some (.int .i64 (kn : Int)) := Q1.out.cell 0
    have c1 : wa.cell? ⟨w.heap.size, 1, none⟩ = some (.string S) := Q1.out.cell 1
    have c2 : wa.cell? ⟨w.heap.size, 2, none⟩ = some (.int .u64 (seq : Int)) := Q1.out.cell 2
    have c3 : wa.cell? ⟨w.heap.size, 3, none⟩ = some (.int .u32 (id : Int)) := Q1.out.cell 3
    have c4 : wa.cell? ⟨w.heap.size, 4, none⟩ = some (.slice A n c) := Q1.out.cell 4
    cases hs with
    | false =>
      go_wp2_with fail
      go_meet
      case rel => exact ⟨_, _, _, rfl, by show _ = (L0 ++ []).length; rw [List.append_nil]; exact LL0.out, by show Ow _ _ _ _ _ _ (bcells (L0 ++ [])); rw [List.append_nil]; exact O.out, Q1.out, HB.out⟩
    | true =>
      have N := Lib.hid (rput_any L0 A0 1 1 seq f1 wa (Ow.rd O.out) (by omega))
      go_wp2_with fail
      refine N.out.mono ?_
      rintro e x1 ⟨v, rfl, ox, bx⟩
      have Q1 := Lib.hid (Q1.out.after bx)
      have LOW := Lib.hid HB.out.size
      have HB := Lib.hid (belowGo HB.out bx)
      obtain ⟨Axx1, cxx1, rfl, -⟩ := own_cap ox
      have O : Hid (Ow _ _ _ _ _ _ _) := Lib.hid (own_low ox LOW.out)
      clear ox bx N LOW
      go_wp2_with fail
      go_meet
      case rel => exact ⟨_, _, _, rfl, by show _ = (L0 ++ pform seq).length; rw [List.length_append, pform_len, ← LL0.out], O.out, Q1.out, HB.out⟩
  case rest =>
  obtain ⟨A1, m1, d1, rfl, l1, o, q1, hb⟩ := hcut
  have lb1 : m1 ≤ 1 + 9 := by
    have := LL0.out
    rw [l1, List.length_append]
    cases hs
    · show _ + 0 ≤ _; omega
    · show _ + (pform seq).length ≤ _; simp only [pform_len]; have := psize_le (seq); omega
  have Q1 := Lib.hid q1
  have HB := Lib.hid hb
  have O : Hid (Ow _ _ _ _ _ _ _) := Lib.hid o
  obtain ⟨L1, hL1⟩ : ∃ L, L = L0 ++ opt hs (pform seq) := ⟨_, rfl⟩
  rw [← hL1] at O l1 HED
  have LL1 := Lib.hid l1
  have HL1 := Lib.hid hL1
  clear o q1 hb hL1 l1
  go_upto_if 31 with (fail)
  go_cut [4] from 31 to 41 (fun v wx => RPut w #[.int .i64 (kn : Int), .string S, .int .u64 (seq : Int), .int .u32 (id : Int), .slice A n c] (L1 ++ opt hq (pform nm.length ++ nm)) v wx)
  case first =>
    have c0 : wc.cell? ⟨w.heap.size, 0, none⟩ = some (.int .i64 (kn : Int)) := Q1.out.cell 0
    have c1 : wc.cell? ⟨w.heap.size, 1, none⟩ = some (.string S) := Q1.out.cell 1
    have c2 : wc.cell? ⟨w.heap.size, 2, none⟩ = some (.int .u64 (seq : Int)) := Q1.out.cell 2
    have c3 : wc.cell? ⟨w.heap.size, 3, none⟩ = some (.int .u32 (id : Int)) := Q1.out.cell 3
    have c4 : wc.cell? ⟨w.heap.size, 4, none⟩ = some (.slice A n c) := Q1.out.cell 4
    cases hq with
    | false =>
      go_wp2_with fail
      go_meet
      case rel => exact ⟨_, _, _, rfl, by show _ = (L1 ++ []).length; rw [List.append_nil]; exact LL1.out, by show Ow _ _ _ _ _ _ (bcells (L1 ++ [])); rw [List.append_nil]; exact O.out, Q1.out, HB.out⟩
    | true =>
      have N := Lib.hid (rput_any L1 A1 m1 d1 nm.length (by omega) wc (Ow.rd O.out) (by omega))
      go_wp2_with fail
      refine N.out.mono ?_
      rintro e x1 ⟨v, rfl, ox, bx⟩
      have Q1 := Lib.hid (Q1.out.after bx)
      have LOW := Lib.hid HB.out.size
      have HB := Lib.hid (belowGo HB.out bx)
      obtain ⟨Axx1, cxx1, rfl, -⟩ := own_cap ox
      have O : Hid (Ow _ _ _ _ _ _ _) := Lib.hid (own_low ox LOW.out)
      clear ox bx N LOW
      obtain ⟨i0, hi0, hz0, hz1, hz2⟩ := info_parts Try.infoU8
      have HBS := Lib.hid HB.out.size
      have hps := psize_le nm.length
      have c1 : x1.cell? ⟨w.heap.size, 1, none⟩ = some (.string S) := Q1.out.cell 1
      clear c0 c2 c3 c4
      go_wp2_with (first
        | (at_builtin; refine Lib.wpList_append_own_string (P := Try.prog) (w := x1) rfl _ _ 22 9 rfl w.heap.size 5 i0 Try.underlying22 Try.underlying9 hi0 hz0 hz1 hz2 _ (m1 + psize nm.length) _ rfl O.out S rfl (by unfold maxLen; omega) (by omega) HBS.out ?_; intro v x2 ox gx _; have Q1 := Lib.hid (Q1.out.grownT O.out (by decide) gx); have HB := Lib.hid (below_of_grown HB.out HB.out.size O.out gx); have OX : Hid (Ow x2 w.heap.size 5 1 v ((m1 + psize nm.length) + nm.length) (bcells ((L1 ++ pform nm.length) ++ nm))) := Lib.hid (by rw [bcells_append, ← HSS.out]; first | exact ox | (rw [hSz] at ox; exact ox)); clear ox gx)
        | fail)
      obtain ⟨A2, e2, rfl, -⟩ := own_cap OX.out
      go_wp2_with fail
      go_meet
      case rel => exact ⟨_, _, _, rfl, by show _ = (L1 ++ (pform nm.length ++ nm)).length; rw [List.length_append, List.length_append, pform_len, ← LL1.out, Nat.add_assoc], by show Ow _ _ _ _ _ _ (bcells (L1 ++ (pform nm.length ++ nm))); rw [← List.append_assoc]; exact OX.out, Q1.out, HB.out⟩
  case rest =>
  obtain ⟨A2, m2, d2, rfl, l2, o, q1, hb⟩ := hcut
  have lb2 : m2 ≤ m1 + 41 := by
    have := LL1.out
    rw [l2, List.length_append]
    cases hq
    · show _ + 0 ≤ _; omega
    · show _ + (pform nm.length ++ nm).length ≤ _; simp only [List.length_append, pform_len]; have := psize_le (nm.length); omega
  have Q1 := Lib.hid q1
  have HB := Lib.hid hb
  have O : Hid (Ow _ _ _ _ _ _ _) := Lib.hid o
  obtain ⟨L2, hL2⟩ : ∃ L, L = L1 ++ opt hq (pform nm.length ++ nm) := ⟨_, rfl⟩
  rw [← hL2] at O l2 HED
  have LL2 := Lib.hid l2
  have HL2 := Lib.hid hL2
  clear o q1 hb hL2 l2
  go_upto_if 42 with (fail)
  go_cut [4] from 42 to 47 (fun v wx => RPut w #[.int .i64 (kn : Int), .string S, .int .u64 (seq : Int), .int .u32 (id : Int), .slice A n c] (L2 ++ opt hi (pform id)) v wx)
  case first =>
    have c0 : wc.cell? ⟨w.heap.size, 0, none⟩ = some (.int .i64 (kn : Int)) := Q1.out.cell 0
    have c1 : wc.cell? ⟨w.heap.size, 1, none⟩ = some (.string S) := Q1.out.cell 1
    have c2 : wc.cell? ⟨w.heap.size, 2, none⟩ = some (.int .u64 (seq : Int)) := Q1.out.cell 2
    have c3 : wc.cell? ⟨w.heap.size, 3, none⟩ = some (.int .u32 (id : Int)) := Q1.out.cell 3
    have c4 : wc.cell? ⟨w.heap.size, 4, none⟩ = some (.slice A n c) := Q1.out.cell 4
    cases hi with
    | false =>
      go_wp2_with fail
      go_meet
      case rel => exact ⟨_, _, _, rfl, by show _ = (L2 ++ []).length; rw [List.append_nil]; exact LL2.out, by show Ow _ _ _ _ _ _ (bcells (L2 ++ [])); rw [List.append_nil]; exact O.out, Q1.out, HB.out⟩
    | true =>
      have N := Lib.hid (rput_any L2 A2 m2 d2 id (by omega) wc (Ow.rd O.out) (by omega))
      go_wp2_with fail
      refine N.out.mono ?_
      rintro e x1 ⟨v, rfl, ox, bx⟩
      have Q1 := Lib.hid (Q1.out.after bx)
      have LOW := Lib.hid HB.out.size
      have HB := Lib.hid (belowGo HB.out bx)
      obtain ⟨Axx1, cxx1, rfl, -⟩ := own_cap ox
      have O : Hid (Ow _ _ _ _ _ _ _) := Lib.hid (own_low ox LOW.out)
      clear ox bx N LOW
      go_wp2_with fail
      go_meet
      case rel => exact ⟨_, _, _, rfl, by show _ = (L2 ++ pform id).length; rw [List.length_append, pform_len, ← LL2.out], O.out, Q1.out, HB.out⟩
  case rest =>
  obtain ⟨A3, m3, d3, rfl, l3, o, q1, hb⟩ := hcut
  have lb3 : m3 ≤ m2 + 9 := by
    have := LL2.out
    rw [l3, List.length_append]
    cases hi
    · show _ + 0 ≤ _; omega
    · show _ + (pform id).length ≤ _; simp only [pform_len]; have := psize_le (id); omega
  have Q1 := Lib.hid q1
  have HB := Lib.hid hb
  have O : Hid (Ow _ _ _ _ _ _ _) := Lib.hid o
  obtain ⟨L3, hL3⟩ : ∃ L, L = L2 ++ opt hi (pform id) := ⟨_, rfl⟩
  rw [← hL3] at O l3 HED
  have LL3 := Lib.hid l3
  have HL3 := Lib.hid hL3
  clear o q1 hb hL3 l3
  have c0 : wc.cell? ⟨w.heap.size, 0, none⟩ = some (.int .i64 (kn : Int)) := Q1.out.cell 0
  go_upto_if 50 with (fail)
  go_cut [4] from 50 to 56 (fun v wx => RPut w #[.int .i64 (kn : Int), .string S, .int .u64 (seq : Int), .int .u32 (id : Int), .slice A n c] (L3 ++ opt h6 (pform n)) v wx)
  case first =>
    have c0 : wc.cell? ⟨w.heap.size, 0, none⟩ = some (.int .i64 (kn : Int)) := Q1.out.cell 0
    have c1 : wc.cell? ⟨w.heap.size, 1, none⟩ = some (.string S) := Q1.out.cell 1
    have c2 : wc.cell? ⟨w.heap.size, 2, none⟩ = some (.int .u64 (seq : Int)) := Q1.out.cell 2
    have c3 : wc.cell? ⟨w.heap.size, 3, none⟩ = some (.int .u32 (id : Int)) := Q1.out.cell 3
    have c4 : wc.cell? ⟨w.heap.size, 4, none⟩ = some (.slice A n c) := Q1.out.cell 4
    cases h6 with
    | false =>
      go_wp2_with fail
      go_meet
      case rel => exact ⟨_, _, _, rfl, by show _ = (L3 ++ []).length; rw [List.append_nil]; exact LL3.out, by show Ow _ _ _ _ _ _ (bcells (L3 ++ [])); rw [List.append_nil]; exact O.out, Q1.out, HB.out⟩
    | true =>
      have N := Lib.hid (rput_any L3 A3 m3 d3 n (by omega) wc (Ow.rd O.out) (by omega))
      go_wp2_with fail
      refine N.out.mono ?_
      rintro e x1 ⟨v, rfl, ox, bx⟩
      have Q1 := Lib.hid (Q1.out.after bx)
      have LOW := Lib.hid HB.out.size
      have HB := Lib.hid (belowGo HB.out bx)
      obtain ⟨Axx1, cxx1, rfl, -⟩ := own_cap ox
      have O : Hid (Ow _ _ _ _ _ _ _) := Lib.hid (own_low ox LOW.out)
      clear ox bx N LOW
      go_wp2_with fail
      go_meet
      case rel => exact ⟨_, _, _, rfl, by show _ = (L3 ++ pform n).length; rw [List.length_append, pform_len, ← LL3.out], O.out, Q1.out, HB.out⟩
  case rest =>
  obtain ⟨A4, m4, d4, rfl, l4, o, q1, hb⟩ := hcut
  have lb4 : m4 ≤ m3 + 9 := by
    have := LL3.out
    rw [l4, List.length_append]
    cases h6
    · show _ + 0 ≤ _; omega
    · show _ + (pform n).length ≤ _; simp only [pform_len]; have := psize_le (n); omega
  have Q1 := Lib.hid q1
  have HB := Lib.hid hb
  have O : Hid (Ow _ _ _ _ _ _ _) := Lib.hid o
  obtain ⟨L4, hL4⟩ : ∃ L, L = L3 ++ opt h6 (pform n) := ⟨_, rfl⟩
  rw [← hL4] at O l4 HED
  have LL4 := Lib.hid l4
  have HL4 := Lib.hid hL4
  clear o q1 hb hL4 l4
  have hL4 : L4.length ≤ 100 := by have := LL4.out; omega
  clear lb1 lb2 lb3 lb4 c0
  go_upto_region 14 with (fail)
  go_wp2_with fail
  go_loopw [4, 9] (fun v i wr => ∃ j : Nat, j ≤ n ∧ i = .int .i64 (j : Int) ∧ RPut w #[.int .i64 (kn : Int), .string S, .int .u64 (seq : Int), .int .u32 (id : Int), .slice A n c] (L4 ++ (sl.take j).flatMap slB) v wr) (fun _ i _ => n - (intOf i).toNat)
  case atStart => exact ⟨0, Nat.zero_le _, rfl, _, _, _, rfl, by simp; exact LL4.out, by simp; exact O.out, Q1.out, HB.out⟩
  case round =>
    obtain ⟨j, hj, rfl, Ab, mb, cb, rfl, hmb, o, q1, hb⟩ := hrel
    have Q1 := Lib.hid q1
    have HB := Lib.hid hb
    have O : Hid (Ow _ _ _ _ _ _ _) := Lib.hid o
    clear q1 hb o
    have c4 : wr.cell? ⟨w.heap.size, 4, none⟩ = some (.slice A n c) := Q1.out.cell 4
    by_cases hlt : j < n
    · skip
      have hji : (j : Int) < (n : Int) := by omega
      obtain ⟨p, off, rfl, hpl, hcell⟩ := HHR.out.2.2 (by omega)
      obtain ⟨s, hs⟩ : ∃ s, sl[j]? = some s := ⟨sl[j]'(by have := HSL.out; omega), List.getElem?_eq_getElem _⟩
      have hfit := F4.out _ (List.mem_of_getElem? hs)
      have hat := (slAt hcell hs).after hpl HB.out
      have hls : slB s = pform s.id ++ pform s.size ++ pform s.many ++ opt (decide (0 < s.many)) (pform s.first ++ pform (s.last - s.first)) := slB_cut _ _ _ _ _
      have htk : (sl.take (j + 1)).flatMap slB = (sl.take j).flatMap slB ++ slB s := by rw [List.take_add_one, hs, List.flatMap_append]; simp
      have hlb := slBs_len (sl.take j)
      have hlt2 : (sl.take j).length ≤ 200 := by rw [List.length_take]; omega
      have hsub := maySls_sub HMS.out (List.mem_of_getElem? hs)
      obtain ⟨i0, i1, i2, i3, i4⟩ := s
      obtain ⟨f0, f1', f2', f3', f4'⟩ := hfit
      dsimp only at f0 f1' f2' f3' f4' hls hsub
      have hat : At wr p (off + j * 5) [.int .u32 (i0 : Int), .int .u32 (i1 : Int), .int .u32 (i2 : Int), .int .u64 (i3 : Int), .int .u64 (i4 : Int)] := hat
      obtain ⟨Lj, hLj⟩ : ∃ L, L = L4 ++ (sl.take j).flatMap slB := ⟨_, rfl⟩
      have hbj : mb ≤ 10000 := by rw [hmb, List.length_append]; omega
      rw [← hLj] at O hmb
      have HLN : Hid (L4 ++ (sl.take (j + 1)).flatMap slB = Lj ++ (pform i0 ++ pform i1 ++ pform i2 ++ opt (decide (0 < i2)) (pform i3 ++ pform (i4 - i3)))) := Lib.hid (by rw [htk, hls, hLj, List.append_assoc L4])
      have HMB := Lib.hid hmb
      have HAT := Lib.hid hat
      clear hcell hs hat hls htk hlb hlt2 hLj hmb
      have qs := Blk.new wr 40 #[.int .u32 (i0 : Int), .int .u32 (i1 : Int), .int .u32 (i2 : Int), .int .u64 (i3 : Int), .int .u64 (i4 : Int)]
      go_upto_region 18 with (first
        | (refine wpList_value rfl (exec_load_mid rfl rfl HAT.out Try.underlying40 rfl (by kernel_rfl)) ?_)
        | fail)
      have Q1 := Lib.hid (Q1.out.alloc (.cells #[.int .u32 (i0 : Int), .int .u32 (i1 : Int), .int .u32 (i2 : Int), .int .u64 (i3 : Int), .int .u64 (i4 : Int)] 40))
      have O : Hid (Ow _ _ _ _ _ _ _) := Lib.hid (Ow.alloc O.out (.cells #[.int .u32 (i0 : Int), .int .u32 (i1 : Int), .int .u32 (i2 : Int), .int .u64 (i3 : Int), .int .u64 (i4 : Int)] 40))
      have HB := Lib.hid (HB.out.alloc HB.out.size (.cells #[.int .u32 (i0 : Int), .int .u32 (i1 : Int), .int .u32 (i2 : Int), .int .u64 (i3 : Int), .int .u64 (i4 : Int)] 40))
      have QS := Lib.hid qs
      obtain ⟨gs, hgs⟩ : ∃ g, g = wr.heap.size := ⟨_, rfl⟩
      rw [← hgs] at QS ⊢
      generalize wr.alloc (.cells #[.int .u32 (i0 : Int), .int .u32 (i1 : Int), .int .u32 (i2 : Int), .int .u64 (i3 : Int), .int .u64 (i4 : Int)] 40) = wa at *
      clear qs hgs c4
      have s0 : wa.cell? ⟨gs, 0, none⟩ = some (.int .u32 (i0 : Int)) := QS.out.cell 0
      have N := Lib.hid (rput_any Lj Ab mb cb i0 (by omega) wa (Ow.rd O.out) (by omega))
      go_wp2_with fail
      refine N.out.mono ?_
      rintro e x1 ⟨v, rfl, ox, bx⟩
      have QS := Lib.hid (QS.out.after bx)
      have Q1 := Lib.hid (Q1.out.after bx)
      have LOW := Lib.hid HB.out.size
      have HB := Lib.hid (belowGo HB.out bx)
      obtain ⟨Axx1, cxx1, rfl, -⟩ := own_cap ox
      have O : Hid (Ow _ _ _ _ _ _ _) := Lib.hid (own_low ox LOW.out)
      clear ox bx N LOW
      clear s0
      have pb1 := psize_le (i0)
      have s1 : x1.cell? ⟨gs, 1, none⟩ = some (.int .u32 (i1 : Int)) := QS.out.cell 1
      have N := Lib.hid (rput_any (Lj ++ pform i0) Axx1 (mb + psize i0) cxx1 i1 (by omega) x1 (Ow.rd O.out) (by omega))
      go_wp2_with fail
      refine N.out.mono ?_
      rintro e x2 ⟨v, rfl, ox, bx⟩
      have QS := Lib.hid (QS.out.after bx)
      have Q1 := Lib.hid (Q1.out.after bx)
      have LOW := Lib.hid HB.out.size
      have HB := Lib.hid (belowGo HB.out bx)
      obtain ⟨Axx2, cxx2, rfl, -⟩ := own_cap ox
      have O : Hid (Ow _ _ _ _ _ _ _) := Lib.hid (own_low ox LOW.out)
      clear ox bx N LOW
      clear s1
      have pb2 := psize_le (i1)
      have s2 : x2.cell? ⟨gs, 2, none⟩ = some (.int .u32 (i2 : Int)) := QS.out.cell 2
      have N := Lib.hid (rput_any ((Lj ++ pform i0) ++ pform i1) Axx2 ((mb + psize i0) + psize i1) cxx2 i2 (by omega) x2 (Ow.rd O.out) (by omega))
      go_wp2_with fail
      refine N.out.mono ?_
      rintro e x3 ⟨v, rfl, ox, bx⟩
      have QS := Lib.hid (QS.out.after bx)
      have Q1 := Lib.hid (Q1.out.after bx)
      have LOW := Lib.hid HB.out.size
      have HB := Lib.hid (belowGo HB.out bx)
      obtain ⟨Axx3, cxx3, rfl, -⟩ := own_cap ox
      have O : Hid (Ow _ _ _ _ _ _ _) := Lib.hid (own_low ox LOW.out)
      clear ox bx N LOW
      clear s2
      have pb3 := psize_le (i2)
      have s2 : x3.cell? ⟨gs, 2, none⟩ = some (.int .u32 (i2 : Int)) := QS.out.cell 2
      by_cases hz : i2 = 0
      · skip
        have hzi : ¬ 0 < (i2 : Int) := by omega
        have HLN2 : Hid (L4 ++ (sl.take (j + 1)).flatMap slB = (((Lj ++ pform i0) ++ pform i1) ++ pform i2)) := Lib.hid (by rw [HLN.out, hz]; simp [opt])
        clear hz HLN
        go_wp2_with fail
        go_roundw
        case rel => exact ⟨j + 1, by omega, by go_num, _, _, _, rfl, by rw [HLN2.out]; simp only [List.length_append, pform_len, ← HMB.out], by rw [HLN2.out]; exact O.out, Q1.out, HB.out⟩
        case measure => simp [intOf]; omega
      · skip
        have hzi : 0 < (i2 : Int) := by omega
        have hle := hsub (by omega)
        obtain ⟨df, hdf⟩ : ∃ d, d = i4 - i3 := ⟨_, rfl⟩
        have hdi : (i4 : Int) - (i3 : Int) = (df : Int) := by omega
        have hdl : df < 18446744073709551616 := by omega
        have HLN2 : Hid (L4 ++ (sl.take (j + 1)).flatMap slB = (((Lj ++ pform i0) ++ pform i1) ++ pform i2) ++ pform i3 ++ pform df) := Lib.hid (by rw [HLN.out, hdf, decide_eq_true (by omega)]; simp [opt])
        clear hz HLN hdf hle
        have s3 : x3.cell? ⟨gs, 3, none⟩ = some (.int .u64 (i3 : Int)) := QS.out.cell 3
        have N := Lib.hid (rput_any (((Lj ++ pform i0) ++ pform i1) ++ pform i2) Axx3 (((mb + psize i0) + psize i1) + psize i2) cxx3 i3 (by omega) x3 (Ow.rd O.out) (by omega))
        go_wp2_with fail
        refine N.out.mono ?_
        rintro e x4 ⟨v, rfl, ox, bx⟩
        have QS := Lib.hid (QS.out.after bx)
        have Q1 := Lib.hid (Q1.out.after bx)
        have LOW := Lib.hid HB.out.size
        have HB := Lib.hid (belowGo HB.out bx)
        obtain ⟨Axx4, cxx4, rfl, -⟩ := own_cap ox
        have O : Hid (Ow _ _ _ _ _ _ _) := Lib.hid (own_low ox LOW.out)
        clear ox bx N LOW
        clear s3
        have pb4 := psize_le (i3)
        have s3 : x4.cell? ⟨gs, 3, none⟩ = some (.int .u64 (i3 : Int)) := QS.out.cell 3
        have s4 : x4.cell? ⟨gs, 4, none⟩ = some (.int .u64 (i4 : Int)) := QS.out.cell 4
        have N := Lib.hid (rput_any ((((Lj ++ pform i0) ++ pform i1) ++ pform i2) ++ pform i3) Axx4 ((((mb + psize i0) + psize i1) + psize i2) + psize i3) cxx4 df hdl x4 (Ow.rd O.out) (by omega))
        go_wp2_with fail
        refine N.out.mono ?_
        rintro e x5 ⟨v, rfl, ox, bx⟩
        have QS := Lib.hid (QS.out.after bx)
        have Q1 := Lib.hid (Q1.out.after bx)
        have LOW := Lib.hid HB.out.size
        have HB := Lib.hid (belowGo HB.out bx)
        obtain ⟨Axx5, cxx5, rfl, -⟩ := own_cap ox
        have O : Hid (Ow _ _ _ _ _ _ _) := Lib.hid (own_low ox LOW.out)
        clear ox bx N LOW
        clear s3 s4
        have pb5 := psize_le (df)
        go_wp2_with fail
        go_roundw
        case rel => exact ⟨j + 1, by omega, by go_num, _, _, _, rfl, by rw [HLN2.out]; simp only [List.length_append, pform_len, ← HMB.out], by rw [HLN2.out]; exact O.out, Q1.out, HB.out⟩
        case measure => simp [intOf]; omega
    · obtain rfl : j = n := by omega
      have hji : ¬ (j : Int) < (j : Int) := by omega
      have hfin : L4 ++ (sl.take j).flatMap slB = D := by rw [List.take_of_length_le (by have := HSL.out; omega), HED.out]
      rw [hfin] at O hmb
      have HMB := Lib.hid hmb
      clear hfin hmb
      go_wp2_with fail
      refine bodyPost_ret (results_tmp2 rfl) rfl ⟨_, rfl, ?_, HB.out⟩
      rw [← HMB.out]
      exact O.out

set_option maxRecDepth 100000 in
set_option maxHeartbeats 4000000 in
theorem rputEd_any (d : Ed) (hd : d.fits) (A : Option Addr) (n c : Nat) (w : World) (hn : d.seals.length = n) (hr : Rd w w.heap.size 5 A n (slCells d.seals)) (hnc : n ≤ c) :
    Calls Try.prog 19 #[.agg (edC d ⟨d.name.toArray⟩ (.slice A n c))] w (RetPutR w d) := by
  cases hm : mayEd d with
  | true =>
    obtain ⟨k, nm, seq, id, sl⟩ := d
    refine (rputE_yes k nm _ rfl seq id sl A n c w hn hd hr hnc hm).mono ?_
    rintro e w' ⟨v, rfl, o, b⟩
    unfold RetPutR
    rw [if_pos hm, if_pos hm]
    exact ⟨v, rfl, o, b⟩
  | false =>
    obtain ⟨E, hE⟩ : ∃ E, E = edC d ⟨d.name.toArray⟩ (.slice A n c) := ⟨_, rfl⟩
    have hsz : E.size = 5 := by rw [hE]; rfl
    have b1 := (Below.refl w.heap.size w).alloc (Nat.le_refl _) (.cells E 32)
    have q1 := Blk.new w 32 E
    have HM := rmayEd_any d hd.1 hd.2.1 hd.2.2.1 hd.2.2.2 A n c (w.alloc (.cells E 32)) hn ((hr.below b1 (Nat.le_refl _)).more b1.size) hnc
    rw [hm, ← hE] at HM
    rw [← hE]
    unfold RetPutR
    rw [if_neg (by rw [hm]; decide), if_neg (by rw [hm]; decide)]
    have HMM := Lib.hid HM
    clear HM hm hE
    go_enter Try.func19, Try.ntmps19
    go_upto_region 1 with (fail)
    generalize w.alloc (.cells E 32) = w1 at *
    have Q1 := Lib.hid q1
    go_wp2_with (first | (refine wpList_value rfl (exec_load_blk rfl rfl Q1.out Try.underlying32 rfl (by rw [hsz]; kernel_rfl)) ?_) | fail)
    refine HMM.out.mono ?_
    rintro e w2 ⟨rfl, b2⟩
    have hb := belowGo b1 b2
    go_wp2_with fail
    exact bodyPost_ret (results_tmp2 rfl) rfl ⟨.slice none 0 0, rfl, World.ownsRow_nil _ _ _ _, hb⟩
end Go.Proofs.Ytedjolkkidciiaa
