/- Package edit: seal (its bytes). For every seal that may be. -/
import Derived.Test.YtedjolkkidciiaaEd7
import Derived.Test.YtedjolkkidciiaaGP
import Derived.Test.YtedjolkkidciiaaGB
import Derived.Deep.CutRange
namespace Go.Proofs.Ytedjolkkidciiaa
open Go.RowKit
attribute [local go_sem] Oper.semAt_some

theorem Try.infoU64 : (Try.prog.info? 24).map (fun i => (i.zero, i.size, i.bytes)) = some (some (.int .u64 0), 1, 8) := by kernel_rfl
theorem eltU64 : Elt Try.prog 79 24 (.int .u64 0) 1 8 := ⟨Try.underlying79, Try.infoU64, rfl, by omega⟩
def nums (s : Sl) : List Nat := [s.id, s.size, s.many] ++ (if s.many = 0 then [] else [s.first, s.last - s.first])
def ucells (l : List Nat) : List Value := l.map fun x : Nat => Value.int .u64 (x : Int)
theorem slB_nums (s : Sl) : slB s = (nums s).flatMap pform := by
  unfold slB nums
  split <;> simp
theorem pforms_len (l : List Nat) : (l.flatMap pform).length ≤ 9 * l.length := by
  induction l with
  | nil => simp
  | cons x r ih =>
    rw [List.flatMap_cons, List.length_append, pform_len, List.length_cons]
    have := psize_le x
    omega

set_option maxRecDepth 100000 in
set_option maxHeartbeats 4000000 in
theorem sealB_any (s : Sl) (hs : s.fits) (hm : maySl s = true) (a : List UInt8) (A : Option Addr) (n c : Nat) (w : World) (h : Rd w w.heap.size 1 A n (bcells a)) (hn : n ≤ 1000000000) :
    Calls Try.prog 31 #[.slice A n c, .agg s.cells.toArray] w (RetOwn w 5 1 (n + (slB s).length) (bcells (a ++ slB s))) := by
  have hln := h.1
  rw [bcells_len, Nat.mul_one] at hln
  rw [slB_nums]
  have hfl : ¬ s.many = 0 → s.first ≤ s.last := fun h0 => by unfold maySl at hm; simp [h0] at hm; omega
  obtain ⟨i, z, m, f, l⟩ := s
  obtain ⟨hi, hz, hmm, hf, hl⟩ := hs
  dsimp only at hi hz hmm hf hl hfl
  rw [show (Sl.mk i z m f l).cells.toArray = #[.int .u32 (i : Int), .int .u32 (z : Int), .int .u32 (m : Int), .int .u64 (f : Int), .int .u64 (l : Int)] from rfl]
  have k1 := (Below.refl w.heap.size w).alloc (Nat.le_refl _) (.cells #[.int .u32 (i : Int), .int .u32 (z : Int), .int .u32 (m : Int), .int .u64 (f : Int), .int .u64 (l : Int)] 40)
  have q1 := Blk.new w 40 #[.int .u32 (i : Int), .int .u32 (z : Int), .int .u32 (m : Int), .int .u64 (f : Int), .int .u64 (l : Int)]
  obtain ⟨L, hL⟩ : ∃ L, L = nums ⟨i, z, m, f, l⟩ := ⟨_, rfl⟩
  rw [← hL]
  go_enter Try.func31, Try.ntmps31
  go_upto_region 1 with (fail)
  generalize w.alloc (.cells #[.int .u32 (i : Int), .int .u32 (z : Int), .int .u32 (m : Int), .int .u64 (f : Int), .int .u64 (l : Int)] 40) = w1 at *
  have c0 : w1.cell? ⟨w.heap.size, 0, none⟩ = some (.int .u32 (i : Int)) := q1.cell 0
  have c1 : w1.cell? ⟨w.heap.size, 1, none⟩ = some (.int .u32 (z : Int)) := q1.cell 1
  have c2 : w1.cell? ⟨w.heap.size, 2, none⟩ = some (.int .u32 (m : Int)) := q1.cell 2
  go_upto_region 2 with (fail)
  have o2 := own_lit1 w1 (B := w.heap.size) 24 #[.int .u64 (i : Int), .int .u64 (z : Int), .int .u64 (m : Int)] 3 k1.size rfl (by unfold maxLen; omega)
  have k2 := belowAlloc k1 (.cells #[.int .u64 (i : Int), .int .u64 (z : Int), .int .u64 (m : Int)] 24)
  have q2 := q1.alloc (.cells #[.int .u64 (i : Int), .int .u64 (z : Int), .int .u64 (m : Int)] 24)
  generalize w1.alloc (.cells #[.int .u64 (i : Int), .int .u64 (z : Int), .int .u64 (m : Int)] 24) = w2 at *
  generalize w1.heap.size = g2 at *
  have c2 : w2.cell? ⟨w.heap.size, 2, none⟩ = some (.int .u32 (m : Int)) := q2.cell 2
  have c3 : w2.cell? ⟨w.heap.size, 3, none⟩ = some (.int .u64 (f : Int)) := q2.cell 3
  have c4 : w2.cell? ⟨w.heap.size, 4, none⟩ = some (.int .u64 (l : Int)) := q2.cell 4
  clear c0 c1 q1
  by_cases hm0 : m = 0
  · have e0 : (m : Int) = 0 := by omega
    have OWN := Lib.hid o2
    have KB := Lib.hid k2
    clear o2 k2 k1
    have hnum : nums ⟨i, z, m, f, l⟩ = [i, z, m] := by unfold nums; rw [if_pos hm0]; rfl
    rw [hnum] at hL
    have hLl : L.length = 3 := by rw [hL]; rfl
    have hLb : ∀ x ∈ L, x < 18446744073709551616 := by rw [hL]; intro x hx; simp at hx; omega
    have rL : Rd w2 w2.heap.size 1 (some ⟨g2, 0, none⟩) 3 (ucells L) := by rw [hL]; exact Rd.of_own OWN.out
    have hfin : (L.take 3).flatMap pform = L.flatMap pform := by rw [List.take_of_length_le (by omega)]
    have HL := Lib.hid hLl
    have HLB := Lib.hid hLb
    have RL := Lib.hid rL
    have HFIN := Lib.hid hfin
    have KW := Lib.hid KB.out
    have HH := Lib.hid h
    clear hnum hL hLl hLb rL hfin h
    go_wp2_with fail
    go_loopw [0, 33] (fun b i wr => ∃ k : Nat, k ≤ 3 ∧ i = .int .i64 (k : Int) ∧ Below w.heap.size w wr ∧ Below w2.heap.size w2 wr ∧ ∃ Ab nb cb, b = .slice Ab nb cb ∧ nb = n + ((L.take k).flatMap pform).length ∧ Rd wr wr.heap.size 1 Ab nb (bcells (a ++ (L.take k).flatMap pform)) ∧ (0 < k → wr.ownsRow w.heap.size 5 1 (.slice Ab nb cb) nb (bcells (a ++ (L.take k).flatMap pform)))) (fun _ i _ => 3 - (intOf i).toNat)
    case atStart => exact ⟨0, by omega, rfl, KW.out, Below.refl _ _, A, n, c, rfl, by simp, by simpa using (HH.out.below KW.out (Nat.le_refl _)).more KW.out.size, fun h => absurd h (by omega)⟩
    case round =>
      obtain ⟨k, hk, rfl, hbr, hbr2, Ab, nb, cb, rfl, hnb, rb, ob⟩ := hrel
      by_cases hlt : k < 3
      · obtain ⟨x, hx⟩ : ∃ x, L[k]? = some x := ⟨L[k]'(by have := HL.out; omega), List.getElem?_eq_getElem _⟩
        have hxb := HLB.out x (List.mem_of_getElem? hx)
        have cx : wr.cell? ⟨g2, k, none⟩ = some (.int .u64 (x : Int)) := by
          have h1 := ((RL.out.after hbr2).2.2 (by omega))
          obtain ⟨b9, off, e9, -, hc9⟩ := h1
          injection e9 with e9
          injection e9 with e9 e8
          subst e9; subst e8
          have := hc9 k (.int .u64 (x : Int)) (by unfold ucells; rw [List.getElem?_map, hx]; rfl)
          rwa [Nat.zero_add] at this
        have htk : (L.take (k + 1)).flatMap pform = (L.take k).flatMap pform ++ pform x := by
          rw [List.take_add_one, hx, List.flatMap_append]; simp
        have hpl := pforms_len (L.take k)
        rw [List.length_take] at hpl
        have hki : (k : Int) < 3 := by omega
        have HP := Lib.hid (put_any (a ++ (L.take k).flatMap pform) Ab nb cb x hxb wr rb (by omega))
        have HTK := Lib.hid htk
        have HNB := Lib.hid hnb
        clear hx htk rb ob hpl hnb
        go_wp2_with fail
        refine HP.out.mono ?_
        rintro e w9 ⟨v, rfl, o9, b9⟩
        obtain ⟨A9, c9, rfl, hc9⟩ := own_cap o9
        have hb9 := belowGo hbr b9
        have hb9b := belowGo hbr2 b9
        rw [List.append_assoc, ← HTK.out] at o9
        have ow9 := own_low o9 hbr.size
        have OW := Lib.hid ow9
        clear HP o9 b9 ow9
        go_wp2_with fail
        go_roundw
        case rel => exact ⟨k + 1, by omega, by go_num, hb9, hb9b, A9, nb + psize x, c9, rfl, by rw [HTK.out, List.length_append, pform_len, HNB.out]; omega, Rd.of_own OW.out, fun _ => OW.out⟩
        case measure => simp [intOf]; omega
      · obtain rfl : k = 3 := by omega
        have ow := ob (by omega)
        rw [HFIN.out] at ow hnb
        subst hnb
        have OW := Lib.hid ow
        clear ob rb ow
        go_wp2_with fail
        go_ret
        exact ⟨_, rfl, OW.out, hbr⟩
  · have e0 : 0 < (m : Int) := by omega
    have hfl := hfl hm0
    obtain ⟨d, hd⟩ : ∃ d, d = l - f := ⟨_, rfl⟩
    have hld : (l : Int) - (f : Int) = (d : Int) := by omega
    have hdb : d < 18446744073709551616 := by omega
    have HD := Lib.hid hd
    clear hd
    have OWN := Lib.hid o2
    have KB := Lib.hid k2
    have hg : w.heap.size ≤ w2.heap.size := k2.size
    have Q2 := Lib.hid q2
    clear o2 k2 k1 q2
    go_upto_region 4 with (first
      | (at_builtin; go_loud (refine wpList_app eltU64 rfl (.tmp 21) (.tmp 29) rfl (n := 3) (m := 2) rfl (World.ownsRow.alloc OWN.out _) rfl (Rd.of_own (own_lit1 w2 (B := w2.heap.size) 24 #[.int .u64 (f : Int), .int .u64 (d : Int)] 2 (Nat.le_refl _) rfl (by unfold maxLen; omega))) (by simp [Value.oneCell']) (by omega) (by unfold maxLen; omega) (belowAlloc KB.out _) (Nat.le_trans hg (by simp)) ?_; intro v5 w5 o5 b5 g5 x5))
      | fail)
    clear OWN KB c2 c3 c4 g5 x5
    obtain ⟨g9, c9, rfl, -, -⟩ := own_ptr o5 (by omega)
    have OWN := Lib.hid o5
    have KB := Lib.hid b5
    clear o5 b5
    have hnum : nums ⟨i, z, m, f, l⟩ = [i, z, m, f, d] := by rw [HD.out]; unfold nums; rw [if_neg hm0]; rfl
    rw [hnum] at hL
    have hLl : L.length = 5 := by rw [hL]; rfl
    have hLb : ∀ x ∈ L, x < 18446744073709551616 := by rw [hL]; intro x hx; simp at hx; omega
    have rL : Rd w5 w5.heap.size 1 (some ⟨g9, 0, none⟩) 5 (ucells L) := by rw [hL]; exact Rd.of_own OWN.out
    have hfin : (L.take 5).flatMap pform = L.flatMap pform := by rw [List.take_of_length_le (by omega)]
    have HL := Lib.hid hLl
    have HLB := Lib.hid hLb
    have RL := Lib.hid rL
    have HFIN := Lib.hid hfin
    have KW := Lib.hid KB.out
    have HH := Lib.hid h
    clear hnum hL hLl hLb rL hfin h
    go_wp2_with fail
    go_loopw [0, 33] (fun b i wr => ∃ k : Nat, k ≤ 5 ∧ i = .int .i64 (k : Int) ∧ Below w.heap.size w wr ∧ Below w5.heap.size w5 wr ∧ ∃ Ab nb cb, b = .slice Ab nb cb ∧ nb = n + ((L.take k).flatMap pform).length ∧ Rd wr wr.heap.size 1 Ab nb (bcells (a ++ (L.take k).flatMap pform)) ∧ (0 < k → wr.ownsRow w.heap.size 5 1 (.slice Ab nb cb) nb (bcells (a ++ (L.take k).flatMap pform)))) (fun _ i _ => 5 - (intOf i).toNat)
    case atStart => exact ⟨0, by omega, rfl, KW.out, Below.refl _ _, A, n, c, rfl, by simp, by simpa using (HH.out.below KW.out (Nat.le_refl _)).more KW.out.size, fun h => absurd h (by omega)⟩
    case round =>
      obtain ⟨k, hk, rfl, hbr, hbr2, Ab, nb, cb, rfl, hnb, rb, ob⟩ := hrel
      by_cases hlt : k < 5
      · obtain ⟨x, hx⟩ : ∃ x, L[k]? = some x := ⟨L[k]'(by have := HL.out; omega), List.getElem?_eq_getElem _⟩
        have hxb := HLB.out x (List.mem_of_getElem? hx)
        have cx : wr.cell? ⟨g9, k, none⟩ = some (.int .u64 (x : Int)) := by
          have h1 := ((RL.out.after hbr2).2.2 (by omega))
          obtain ⟨b9, off, e9, -, hc9⟩ := h1
          injection e9 with e9
          injection e9 with e9 e8
          subst e9; subst e8
          have := hc9 k (.int .u64 (x : Int)) (by unfold ucells; rw [List.getElem?_map, hx]; rfl)
          rwa [Nat.zero_add] at this
        have htk : (L.take (k + 1)).flatMap pform = (L.take k).flatMap pform ++ pform x := by
          rw [List.take_add_one, hx, List.flatMap_append]; simp
        have hpl := pforms_len (L.take k)
        rw [List.length_take] at hpl
        have hki : (k : Int) < 5 := by omega
        have HP := Lib.hid (put_any (a ++ (L.take k).flatMap pform) Ab nb cb x hxb wr rb (by omega))
        have HTK := Lib.hid htk
        have HNB := Lib.hid hnb
        clear hx htk rb ob hpl hnb
        go_wp2_with fail
        refine HP.out.mono ?_
        rintro e w9 ⟨v, rfl, o9, b9⟩
        obtain ⟨A9, c9, rfl, hc9⟩ := own_cap o9
        have hb9 := belowGo hbr b9
        have hb9b := belowGo hbr2 b9
        rw [List.append_assoc, ← HTK.out] at o9
        have ow9 := own_low o9 hbr.size
        have OW := Lib.hid ow9
        clear HP o9 b9 ow9
        go_wp2_with fail
        go_roundw
        case rel => exact ⟨k + 1, by omega, by go_num, hb9, hb9b, A9, nb + psize x, c9, rfl, by rw [HTK.out, List.length_append, pform_len, HNB.out]; omega, Rd.of_own OW.out, fun _ => OW.out⟩
        case measure => simp [intOf]; omega
      · obtain rfl : k = 5 := by omega
        have ow := ob (by omega)
        rw [HFIN.out] at ow hnb
        subst hnb
        have OW := Lib.hid ow
        clear ob rb ow
        go_wp2_with fail
        go_ret
        exact ⟨_, rfl, OW.out, hbr⟩
end Go.Proofs.Ytedjolkkidciiaa
