/- Several texts in one: ScK1, ScK2, ScK3. No condition of its own. -/
import Derived.Test.YtfapipamohlniaaDoorScMa
import Derived.Test.YtfapipamohlniaaDoorHeadR1
import Derived.Test.YtfapipamohlniaaDoorRecQ2
namespace Go.Proofs.YtfapipamohlniaaDoor
open Go.RowKit

def segK (qs : List Nat) : List UInt8 := segP 3 (qs.map fun q => ⟨q, [107], [118]⟩)
theorem segK_snoc (qs : List Nat) (q : Nat) : segK (qs ++ [q]) = segK qs ++ runR q 1 [107] [118] 0 0 := by
  unfold segK segP runsP
  rw [List.map_append, List.flatMap_append, ← List.append_assoc]
  simp [PR.run]
theorem segK_nil : segK [] = headB 1 3 := by unfold segK segP runsP; simp
theorem segK_len (qs : List Nat) : (segK qs).length = 16 + 27 * qs.length := by
  unfold segK segP runsP
  rw [List.length_append, headB_len]
  congr 1
  induction qs with
  | nil => rfl
  | cons q r ih => rw [List.map_cons, List.flatMap_cons, List.length_append, ih, PR.run_len]; simp [PR.len]; omega
theorem blk_rdb {w : World} {g : Nat} {l : List UInt8} {n : Nat} (h : Blk w g 5 (bcells l).toArray) (hl : l.length = n) (hn : n ≤ maxLen) : Rd w w.heap.size 1 (some ⟨g, 0, none⟩) n (bcells l) := h.rd (by simp [bcells_len, hl]) hn
/-- bytes that are the call's own -/
def RetBytes (l : List UInt8) (w : World) (e : Ending) (w' : World) : Prop := ∃ v, e = .returned v ∧ Ow w' w.heap.size 5 1 v l.length (bcells l) ∧ Below w.heap.size w w'

set_option maxRecDepth 100000 in
set_option maxHeartbeats 1000000 in
theorem laidK_any (qs : List Nat) (A : Option Addr) (n c : Nat) (w : World) (hq : ∀ q ∈ qs, 1 ≤ q ∧ q ≤ 1099511627776) (hl : qs.length ≤ 1000) (h : Rd w w.heap.size 1 A n (qs.map fun q : Nat => .int .u64 (q : Int))) :
    Calls Tryd.prog 13 #[.slice A n c] w (RetBytes (segK qs) w) := by
  have hln := h.1
  rw [List.length_map, Nat.mul_one] at hln
  have H := Lib.hid (rputH_any 1 3 (by decide) w)
  rw [show headP 1 3 = segK [] by rw [segK_nil]; rfl, show (if mayH 1 3 = true then 0 else 1) = 0 by rfl] at H
  go_enter Tryd.func13, Tryd.ntmps13
  go_wp2_with fail
  refine H.out.mono ?_
  rintro e w1 ⟨v1, rfl, o1, b1⟩
  clear H
  have O1 : Hid (Ow w1 w.heap.size 5 1 v1 (segK []).length (bcells (segK []))) := Lib.hid o1
  have B1 := Lib.hid b1
  clear o1 b1
  have HL := Lib.hid hln
  clear hln
  go_wp2_with fail
  go_loopw [3, 15] (fun v i wr => ∃ k : Nat, k ≤ n ∧ i = .int .i64 (k : Int) ∧ Ow wr w.heap.size 5 1 v (segK (qs.take k)).length (bcells (segK (qs.take k))) ∧ Below w.heap.size w wr) (fun _ i _ => n - (intOf i).toNat)
  case atStart => exact ⟨0, Nat.zero_le _, rfl, O1.out, B1.out⟩
  case round =>
    obtain ⟨k, hk, rfl, ho, hb⟩ := hrel
    obtain ⟨A3, c3, rfl⟩ := own_slice ho
    by_cases hlt : k < n
    · have i1 : (k : Int) < (n : Int) := by omega
      have hkq : k < qs.length := by have := HL.out; omega
      obtain ⟨bk, off, rfl, hblk, hcell⟩ := h.2.2 (by omega)
      have ck := (hb.cell (p := ⟨bk, off + k, none⟩) hblk).trans (hcell k (.int .u64 (qs[k] : Int)) (by simp [hkq]))
      have hqk := hq _ (List.getElem_mem hkq)
      have hs := segK_snoc (qs.take k) qs[k]
      rw [← List.take_succ_eq_append_getElem hkq] at hs
      have hz := segK_len (qs.take k)
      rw [List.length_take, Nat.min_eq_left (by omega)] at hz
      generalize qs[k] = q at *
      have hm : mayR q ((1 : Nat) : Int) 1 1 0 0 = true := by
        unfold mayR seqR
        have e1 : decide (1 ≤ q) = true := by simp; omega
        have e2 : decide (q ≤ 1099511627776) = true := by simp; omega
        first
        | (rw [e1, e2]; rfl)
        | (simp [e1, e2]; decide)
      have kc1 : (convert 25 25 (.slice (some ⟨wr.heap.size, 0, none⟩) 1 1)).run Tryd.prog (wr.alloc (.cells #[.int .u8 107] 5)) = .ok (.slice (some ⟨wr.heap.size, 0, none⟩) 1 1) (wr.alloc (.cells #[.int .u8 107] 5 (1, 2))) := by
        have := Lib.run_convert_bytes_const (P := Tryd.prog) wr 25 5 #[.int .u8 107] 1 1 Tryd.underlying25 Tryd.underlying5
        simpa using this
      have kc2 : (convert 25 25 (.slice (some ⟨wr.heap.size + 1, 0, none⟩) 1 1)).run Tryd.prog ((wr.alloc (.cells #[.int .u8 107] 5 (1, 2))).alloc (.cells #[.int .u8 118] 5)) = .ok (.slice (some ⟨wr.heap.size + 1, 0, none⟩) 1 1) ((wr.alloc (.cells #[.int .u8 107] 5 (1, 2))).alloc (.cells #[.int .u8 118] 5 (1, 2))) := by
        have := Lib.run_convert_bytes_const (P := Tryd.prog) (wr.alloc (.cells #[.int .u8 107] 5 (1, 2))) 25 5 #[.int .u8 118] 1 1 Tryd.underlying25 Tryd.underlying5
        simpa using this
      have rK := (rd_newF wr #[.int .u8 107] 5 (1, 2) [107] rfl (by decide)).allocs (.cells #[.int .u8 118] 5 (1, 2))
      have rV := rd_newF (wr.alloc (.cells #[.int .u8 107] 5 (1, 2))) #[.int .u8 118] 5 (1, 2) [118] rfl (by decide)
      rw [show (wr.alloc (.cells #[.int .u8 107] 5 (1, 2))).heap.size = wr.heap.size + 1 by simp] at rV
      have HP := Lib.hid (rputR_yes q 1 [107] [118] (some ⟨wr.heap.size, 0, none⟩) 1 1 (some ⟨wr.heap.size + 1, 0, none⟩) 1 1 0 0 _ hm rK rV)
      have hb2 := Lib.hid (belowAlloc (hb.alloc hb.size (.cells #[.int .u8 107] 5 (1, 2))) (.cells #[.int .u8 118] 5 (1, 2)))
      have ho2 : Hid (Ow _ _ _ _ _ _ _) := Lib.hid ((Ow.alloc ho (.cells #[.int .u8 107] 5 (1, 2))).alloc (.cells #[.int .u8 118] 5 (1, 2)))
      unfold recV at HP
      simp only [Int.cast_ofNat_Int] at HP
      have HS := Lib.hid hs
      clear ho hb hcell hs rK rV hm hkq h hblk
      go_wp2_with fail
      refine HP.out.mono ?_
      rintro e w2 ⟨v2, rfl, o2, b2⟩
      clear HP kc1 kc2
      obtain ⟨A2, c2, rfl⟩ := own_slice o2
      have o3 : Hid (Ow _ _ _ _ _ _ _) := Lib.hid (ho2.out.after b2)
      have b3 := Lib.hid (belowGo hb2.out b2)
      have r2 := Lib.hid (own_rd o2)
      clear o2 b2 ho2 hb2
      have hnn : n ≤ 1000 := by have := HL.out; omega
      have hzn : (segK (qs.take k)).length ≤ 100000 := by omega
      have HZ := Lib.hid hz
      clear hz hl hq hqk
      go_wp2_with (at_builtin; refine wpList_app eltU8 rfl (.tmp 29) (.tmp 30) rfl rfl o3.out rfl r2.out (bcells_one _) (by omega) (by unfold maxLen; omega) b3.out b3.out.size ?_; intro v4 w4 o4 b4 x1 x2; clear x1 x2 o3 b3 r2; have O4 := Lib.hid o4; have B4 := Lib.hid b4; clear o4 b4)
      go_roundw
      case rel => exact ⟨k + 1, by omega, by go_num, own_eq O4.out (by rw [HS.out, List.length_append, runR_len]; rfl) (by rw [HS.out, bcells_append]), B4.out⟩
      case measure => simp [intOf]; omega
    · have i1 : ¬ (k : Int) < (n : Int) := by omega
      have hkn : k = qs.length := by have := HL.out; omega
      have he : segK (qs.take k) = segK qs := by rw [List.take_of_length_le (by omega)]
      have HE := Lib.hid he
      have HO := Lib.hid ho
      have HB := Lib.hid hb
      clear hkn he ho hb hk hlt
      go_wp2_with fail
      go_ret
      exact ⟨.slice A3 (segK (qs.take k)).length c3, rfl, by have := HO.out; rw [HE.out] at this ⊢; exact this, HB.out⟩
end Go.Proofs.YtfapipamohlniaaDoor

namespace Go.Proofs.YtfapipamohlniaaDoor
open Go.RowKit

theorem Sc.eq_ {s : Sc} {a b : List Nat} {c d : Nat} (h : s.fd = a ∧ s.ps = b ∧ s.en = c ∧ s.wy = d) : s = ⟨a, b, c, d⟩ := by
  obtain ⟨rfl, rfl, rfl, rfl⟩ := h
  rfl
theorem Sl.eq_ {s : Sl} {a b c d e : Nat} (h : s.id = a ∧ s.size = b ∧ s.many = c ∧ s.first = d ∧ s.last = e) : s = ⟨a, b, c, d, e⟩ := by
  obtain ⟨rfl, rfl, rfl, rfl, rfl⟩ := h
  rfl
set_option maxRecDepth 100000 in
theorem k_full : ofS 3 (segK [1, 2, 5]) = ⟨[16, 43, 70], [], 97, 0⟩ := Sc.eq_ (by decide +kernel)
set_option maxRecDepth 100000 in
theorem k_cut : ofS 3 ((segK [1, 2, 5]).take 96) = ⟨[16, 43], [], 70, 22⟩ := Sc.eq_ (by decide +kernel)
set_option maxRecDepth 100000 in
theorem k_byte : (segK [1, 2, 5])[69]? = some 41 := by decide +kernel
set_option maxRecDepth 100000 in
theorem k_turn : ofS 3 ((segK [1, 2, 5]).set 69 40) = ⟨[16, 70], [43], 97, 0⟩ := Sc.eq_ (by decide +kernel)
set_option maxRecDepth 100000 in
theorem k_seal : sealS (segK [1, 2, 5]) 3 ⟨[16, 43, 70], [], 97, 0⟩ = ⟨3, 97, 3, 1, 5⟩ := Sl.eq_ (by decide +kernel)
set_option maxRecDepth 100000 in
theorem k_lost : lostS ((segK [1, 2, 5]).set 69 40) 3 ⟨[16, 70], [43], 97, 0⟩ ⟨3, 97, 3, 1, 5⟩ = [(2, 4)] := by decide +kernel
theorem bset_eq' (l : List UInt8) (j : Nat) (V : UInt8) : (bcells l).set j (.int .u8 (V.toNat : Int)) = bcells (l.set j V) := by unfold bcells; rw [List.map_set]
theorem rd_put {w : World} {B n b off : Nat} {l : List UInt8} (h : Rd w B 1 (some ⟨b, off, none⟩) n (bcells l)) {k : Nat} (hk : k < n) (u : UInt8) : Rd (w.setCell ⟨b, off + k, none⟩ (.int .u8 (u.toNat : Int))) B 1 (some ⟨b, off, none⟩) n (bcells (l.set k u)) :=
  ⟨by have := h.1; rw [bcells_len] at this ⊢; rw [List.length_set]; exact this, h.2.1, fun hn => by
    obtain ⟨b', off', e, hb, hc⟩ := h.2.2 hn
    injection e with e
    injection e with e1 e2
    subst e1; subst e2
    refine ⟨b, off, rfl, hb, fun j u' hu => ?_⟩
    rw [← bset_eq', List.getElem?_set] at hu
    have hl : k < (bcells l).length := by have := h.1; omega
    by_cases hj : k = j
    · subst hj
      rw [if_pos rfl, if_pos hl] at hu
      injection hu with hu
      subst hu
      exact World.cell?_setCell_same' _ _ _ (by rw [hc k _ (List.getElem?_eq_getElem hl)]; rfl)
    · rw [if_neg hj] at hu
      rw [World.cell?_setCell_other _ _ _ _ (by intro e; injection e with _ e; omega)]
      exact hc j u' hu⟩
theorem FX.ok.low {w : World} {lo : Nat} {b : List UInt8} {x : FX} (h : x.ok w lo b) {g : Nat} (hg : g < lo) (i : Nat) (u : Value) : x.ok (w.setCell ⟨g, i, none⟩ u) lo b :=
  ⟨h.1.far (by have := h.2.2.2.1; show x.gK ≠ g; omega) u, h.2.1.far (by have := h.2.2.2.2; show x.gV ≠ g; omega) u, h.2.2⟩
theorem ScRow.low_ {lo : Nat} {b : List UInt8} {id : Nat} {s : Sc} {vF vP : Value} {X : List FX} {w : World} (h : ScRow lo b id s vF vP X w) {g : Nat} (hg : g < lo) (i : Nat) (u : Value) : ScRow lo b id s vF vP X (w.setCell ⟨g, i, none⟩ u) :=
  ⟨h.1, Ow.grown h.2.1 (grown_set w ⟨g, i, none⟩ u) (fun k e => by cases e; exact hg), Ow.grown h.2.2.1 (grown_set w ⟨g, i, none⟩ u) (fun k e => by cases e; exact hg), fun x hx => (h.2.2.2 x hx).low hg i u⟩
/-- a scan that lies in a block, its rows beyond -/
def ScB (lo : Nat) (b : List UInt8) (id g : Nat) (s : Sc) (w : World) : Prop := ∃ vF vP X, Blk w g 33 (scCells id s vF vP) ∧ ScRow lo b id s vF vP X w
end Go.Proofs.YtfapipamohlniaaDoor

namespace Go.Proofs.YtfapipamohlniaaDoor
open Go.RowKit

theorem off_at {X : List FX} {l : List Nat} (h : X.map FX.off = l) {i o : Nat} (hi : l[i]? = some o) : ∃ hx : i < X.length, (X[i]).off = o := by
  have hl : i < X.length := by
    have := (List.getElem?_eq_some_iff.1 hi).1
    rw [← h, List.length_map] at this
    exact this
  refine ⟨hl, ?_⟩
  rw [← h, List.getElem?_map, List.getElem?_eq_getElem hl] at hi
  simpa using hi

theorem own_frozen {w : World} {base size n g c : Nat} {e : TypeId} {xs : List Value} (h : Ow w base e size (.slice (some ⟨g, 0, none⟩) n c) n xs) (i : Nat) : w.frozen? ⟨g, i, none⟩ = false := by
  rcases h.2 with ⟨h1, _⟩ | ⟨g', cap, cur, h1, _, h3, _⟩
  · cases h1
  · injection h1 with h1
    injection h1 with h1
    injection h1 with h1
    subst h1
    exact Blk.frozen (w := w) (g := g) h3 i
theorem own_put {w : World} {base n g c : Nat} {l : List UInt8} (h : Ow w base 5 1 (.slice (some ⟨g, 0, none⟩) n c) n (bcells l)) {k : Nat} (u : UInt8) : Ow (w.setCell ⟨g, k, none⟩ (.int .u8 (u.toNat : Int))) base 5 1 (.slice (some ⟨g, 0, none⟩) n c) n (bcells (l.set k u)) := by
  refine ⟨by have := h.1; rw [bcells_len] at this ⊢; rw [List.length_set]; exact this, ?_⟩
  rcases h.2 with ⟨h1, _⟩ | ⟨g', cap, cur, h1, h2, h3, h4, h5, h6, h7⟩
  · cases h1
  · injection h1 with h1 _ hc
    injection h1 with h1
    injection h1 with h1
    subst h1
    subst hc
    refine .inr ⟨g, c, cur.setIfInBounds k (.int .u8 (u.toNat : Int)), rfl, h2, Blk.set_ (w := w) (g := g) h3 k _, h4, h5, by simpa using h6, ?_⟩
    rw [← bset_eq', ← h7, Array.toList_setIfInBounds, List.take_set]
set_option maxRecDepth 100000 in
set_option maxHeartbeats 4000000 in
theorem knows_any (w : World) (hT : TabR w) : Calls Tryd.prog 12 #[] w fun e w' => e = .returned (.bool true) ∧ Below w.heap.size w w' := by
  obtain ⟨S, hS⟩ : ∃ S, S = segK [1, 2, 5] := ⟨_, rfl⟩
  have e1 := k_full
  have e2 := k_cut
  have e3 := k_turn
  have e4 := k_seal
  have e5 := k_lost
  have e6 := k_byte
  have hSl := segK_len [1, 2, 5]
  have q0 := Blk.new w 37 #[.int .u64 1, .int .u64 2, .int .u64 5]
  have hb := (Below.refl w.heap.size w).alloc (Nat.le_refl _) (.cells #[.int .u64 1, .int .u64 2, .int .u64 5] 37)
  have TB1 : 1 < w.heap.size := hT.1.1
  have TB2 : 0 < w.heap.size := hT.2.1
  have hT := hT.alloc (.cells #[.int .u64 1, .int .u64 2, .int .u64 5] 37)
  have H1 := laidK_any [1, 2, 5] (some ⟨w.heap.size, 0, none⟩) 3 3 _ (by decide) (by decide) (q0.rd (n := 3) rfl (by decide))
  rw [← hS] at e1 e2 e3 e4 e5 e6 hSl H1
  have HS := Lib.hid hS
  have H1 := Lib.hid H1
  have E1 := Lib.hid e1
  have E2 := Lib.hid e2
  have E3 := Lib.hid e3
  have E4 := Lib.hid e4
  have E5 := Lib.hid e5
  have E6 := Lib.hid e6
  have HSL := Lib.hid (show S.length = 97 from hSl)
  have HT := Lib.hid hT
  have HB := Lib.hid hb
  clear hS e1 e2 e3 e4 e5 e6 hSl q0 hT hb
  go_enter Tryd.func12, Tryd.ntmps12
  go_wp2_with fail
  refine H1.out.mono ?_
  rintro e w1 ⟨v, rfl, o1, b1⟩
  have hT1 := HT.out.after b1
  have hb1 := belowGo HB.out b1
  rw [HSL.out] at o1
  obtain ⟨gb, c1, rfl, hc1, hgb⟩ := own_ptr o1 (by omega)
  have hgw : w.heap.size ≤ gb := by have := hgb; simp at this; omega
  have r1 := own_rd o1
  have hg1 := (r1.2.2 (by omega))
  obtain ⟨_, _, eA, hgl, _⟩ := hg1
  injection eA with eA
  injection eA with e1 e2
  subst e1; subst e2
  clear H1 HT HB b1
  have H2 := Lib.hid (of_any 3 S (some ⟨gb, 0, none⟩) 97 c1 w1 hT1 hc1 r1 (by decide))
  have HT1 := Lib.hid hT1
  have HB1 := Lib.hid hb1
  have O1 : Hid (Ow _ _ _ _ _ _ _) := Lib.hid o1
  clear hT1 hb1 r1 o1
  go_wp2_with fail
  refine H2.out.mono ?_
  unfold RetSc
  rw [E1.out]
  rintro e w2 ⟨vF, vP, X, rfl, s2, b2⟩
  obtain ⟨AF, cF, rfl⟩ := own_slice s2.2.1
  obtain ⟨AP, cP, rfl⟩ := own_slice s2.2.2.1
  have hX : X.length = 3 := by rw [← List.length_map (f := FX.off), s2.1]; rfl
  rw [hX] at s2 ⊢
  have qx := Blk.new w2 33 (scCells 3 ⟨[16, 43, 70], [], 97, 0⟩ (.slice AF 3 cF) (.slice AP 0 cP))
  have bA := (Below.refl w2.heap.size w2).alloc (Nat.le_refl _) (.cells (scCells 3 ⟨[16, 43, 70], [], 97, 0⟩ (.slice AF 3 cF) (.slice AP 0 cP)) 33)
  have hx := s2.after bA
  have hT3 := (HT1.out.after b2).after bA
  have hb3 := belowGo (belowGo HB1.out b2) bA
  have o3 : Ow _ _ _ _ _ _ _ := (O1.out.after b2).after bA
  have hz3 := Nat.le_trans b2.size bA.size
  obtain ⟨g2, hg2⟩ : ∃ g, g = w2.heap.size := ⟨_, rfl⟩
  have hgx : w1.heap.size ≤ g2 := by have := b2.size; omega
  rw [← hg2] at qx
  have HG2 := Lib.hid hg2
  simp only [scCells, Int.cast_ofNat_Int] at qx bA hx hT3 hb3 o3 hz3 ⊢
  clear H2 HT1 HB1 O1 b2 s2 bA hg2
  have QX := Lib.hid qx
  have HX := Lib.hid hx
  have HXL := Lib.hid hX
  have rt := (own_rd o3).take (k := 96) (by omega)
  rw [Nat.mul_one, show (bcells S).take 96 = bcells (S.take 96) by simp [bcells]] at rt
  have H3 := Lib.hid (of_any 3 (S.take 96) (some ⟨gb, 0, none⟩) 96 c1 _ hT3 (by omega) rt (by decide))
  have HT3 := Lib.hid hT3
  have HB3 := Lib.hid hb3
  have O3 : Hid (Ow _ _ _ _ _ _ _) := Lib.hid o3
  have i96 : (96 : Int) ≤ (c1 : Int) := by omega
  clear qx hx hX hT3 hb3 o3 rt
  go_wp2_with fail
  rw [← HG2.out] at *
  refine H3.out.mono ?_
  unfold RetSc
  rw [E2.out]
  generalize w2.alloc (.cells #[.int .u32 3, .slice AF 3 cF, .slice AP 0 cP, .int .i64 97, .int .i64 0] 33) = w3 at *
  rintro e w4 ⟨vF2, vP2, Y, rfl, s4, b4⟩
  obtain ⟨AF2, cF2, rfl⟩ := own_slice s4.2.1
  obtain ⟨AP2, cP2, rfl⟩ := own_slice s4.2.2.1
  have hYl : Y.length = 2 := by rw [← List.length_map (f := FX.off), s4.1]; rfl
  rw [hYl] at s4 ⊢
  have qy := Blk.new w4 33 (scCells 3 ⟨[16, 43], [], 70, 22⟩ (.slice AF2 2 cF2) (.slice AP2 0 cP2))
  have bA := (Below.refl w4.heap.size w4).alloc (Nat.le_refl _) (.cells (scCells 3 ⟨[16, 43], [], 70, 22⟩ (.slice AF2 2 cF2) (.slice AP2 0 cP2)) 33)
  have hy := s4.after bA
  have qx := (QX.out.after b4).after bA
  have hx := (HX.out.after b4).after bA
  have hT5 := (HT3.out.after b4).after bA
  have hb5 := belowGo (belowGo HB3.out b4) bA
  have o5 : Ow _ _ _ _ _ _ _ := (O3.out.after b4).after bA
  have hg3 := qx.lt
  obtain ⟨g4, hg4⟩ : ∃ g, g = w4.heap.size := ⟨_, rfl⟩
  have hgy : w1.heap.size ≤ g4 := by have := b4.size; omega
  have hz5 := Nat.le_trans hz3 (Nat.le_trans b4.size bA.size)
  rw [← hg4] at qy
  have HG4 := Lib.hid hg4
  simp only [scCells, Int.cast_ofNat_Int] at qy bA hy qx hx hT5 hb5 o5 hz5 ⊢
  clear H3 HT3 HB3 O3 b4 s4 bA hg4 QX HX
  have HYL := Lib.hid hYl
  have QX := Lib.hid qx
  have HX := Lib.hid hx
  have QY := Lib.hid qy
  have HY := Lib.hid hy
  have HT5 := Lib.hid hT5
  have HB5 := Lib.hid hb5
  have O5 : Hid (Ow _ _ _ _ _ _ _) := Lib.hid o5
  have f69 := own_frozen o5 69
  have bx : bits BinOp.xor IntKind.u8 41 1 = 40 := by decide
  have c69 := o5.cell rfl (by omega) (j := 69) (x := .int .u8 41) (by simp only [bcells, List.getElem?_map, E6.out]; rfl)
  rw [Nat.zero_add] at c69
  have o6 := own_put o5 (k := 69) 40
  have hT6 := hT5.below ((Below.refl w.heap.size (w4.alloc (.cells #[.int .u32 3, .slice AF2 2 cF2, .slice AP2 0 cP2, .int .i64 70, .int .i64 22] 33))).setCell (p := ⟨gb, 69, none⟩) hgw (.int .u8 40)) TB1 TB2
  have hb6 := hb5.setCell (p := ⟨gb, 69, none⟩) hgw (.int .u8 40)
  have qx6 := qx.far (p := ⟨gb, 69, none⟩) (by dsimp only; omega) (.int .u8 40)
  have qy6 := qy.far (p := ⟨gb, 69, none⟩) (by dsimp only; omega) (.int .u8 40)
  have hx6 := hx.low_ hgl 69 (.int .u8 40)
  have hy6 := hy.low_ (g := gb) (by omega) 69 (.int .u8 40)
  simp only [UInt8.reduceToNat, Int.cast_ofNat_Int] at o6
  have H6 := Lib.hid (of_any 3 (S.set 69 40) (some ⟨gb, 0, none⟩) 97 c1 _ hT6 hc1 (own_rd o6) (by decide))
  have QX := Lib.hid qx6
  have HX := Lib.hid hx6
  have QY := Lib.hid qy6
  have HY := Lib.hid hy6
  have HB6 := Lib.hid hb6
  clear qx hx qy hy hT5 hb5 o5 hYl o6 hT6 hb6 qx6 qy6 hx6 hy6 HT5 HB5 O5
  go_wp2_with fail
  rw [← HG4.out] at *
  refine H6.out.mono ?_
  unfold RetSc
  rw [E3.out]
  generalize (w4.alloc (.cells #[.int .u32 3, .slice AF2 2 cF2, .slice AP2 0 cP2, .int .i64 70, .int .i64 22] 33)).setCell ⟨gb, 69, none⟩ (.int .u8 40) = w6 at *
  rintro e w7 ⟨vF3, vP3, Z, rfl, s7, b7⟩
  obtain ⟨AF3, cF3, rfl⟩ := own_slice s7.2.1
  obtain ⟨AP3, cP3, rfl⟩ := own_slice s7.2.2.1
  have hZl : Z.length = 2 := by rw [← List.length_map (f := FX.off), s7.1]; rfl
  rw [hZl] at s7 ⊢
  have qz := Blk.new w7 33 (scCells 3 ⟨[16, 70], [43], 97, 0⟩ (.slice AF3 2 cF3) (.slice AP3 1 cP3))
  have bA := (Below.refl w7.heap.size w7).alloc (Nat.le_refl _) (.cells (scCells 3 ⟨[16, 70], [43], 97, 0⟩ (.slice AF3 2 cF3) (.slice AP3 1 cP3)) 33)
  have hz := s7.after bA
  have qx := (QX.out.after b7).after bA
  have hx := (HX.out.after b7).after bA
  have qy := (QY.out.after b7).after bA
  have hy := (HY.out.after b7).after bA
  have hb8 := belowGo (belowGo HB6.out b7) bA
  obtain ⟨g7, hg7⟩ : ∃ g, g = w7.heap.size := ⟨_, rfl⟩
  rw [← hg7] at qz
  have HG7 := Lib.hid hg7
  simp only [scCells, Int.cast_ofNat_Int] at qz bA hz qx hx qy hy hb8 ⊢
  clear H6 HB6 b7 s7 bA hg7 QX HX QY HY c69 f69
  have z0 := qz.cell 0
  have z1 := qz.cell 1
  have z2 := qz.cell 2
  have z3 := qz.cell 3
  have z4 := qz.cell 4
  have HZL := Lib.hid hZl
  have QX := Lib.hid qx
  have HX := Lib.hid hx
  have QY := Lib.hid qy
  have HY := Lib.hid hy
  have QZ := Lib.hid qz
  have HZ := Lib.hid hz
  have HB8 := Lib.hid hb8
  clear qx hx qy hy qz hz hb8 hZl
  go_upto_region 6 with (fail)
  rw [← HG7.out] at *
  generalize w7.alloc (.cells #[.int .u32 3, .slice AF3 2 cF3, .slice AP3 1 cP3, .int .i64 97, .int .i64 0] 33) = w8 at *
  refine wp_region_plan (fun W => Below w8.heap.size w8 W) [.read 0, .act 1, .act 2, .act 3, .calms [4]] (by kernel_rfl) (by rfl) (by kernel_rfl) (by kernel_rfl) (Below.drew_ w8) ?_
  have hcur := Below.drew_ w8
  generalize w8.drew = w9 at *
  refine plan_read (by rfl) (.agg #[.int .u32 3, .slice AF3 2 cF3, .slice AP3 1 cP3, .int .i64 97, .int .i64 0]) (by rfl) (fun W hW => exec_load_blk rfl rfl (QZ.out.after hW) Tryd.underlying33 rfl (by kernel_rfl)) ?_
  have qx9 := QX.out.after hcur
  have x0 := qx9.cell 0
  have x1 := qx9.cell 1
  have x2 := qx9.cell 2
  have x3 := qx9.cell 3
  have x4 := qx9.cell 4
  have HX9 := Lib.hid (HX.out.after hcur)
  have HZ9 := Lib.hid (HZ.out.after hcur)
  have HL9 := Lib.hid (seal_any w1.heap.size S 3 ⟨[16, 43, 70], [], 97, 0⟩ (.slice AF 3 cF) (.slice AP 0 cP) X w9 (HX.out.after hcur) (by decide) (by decide))
  rw [E4.out] at HL9
  simp only [scCells, slCells, Int.cast_ofNat_Int] at HL9
  clear z0 z1 z2 z3 z4 qx9
  refine plan_act (by rfl) ?_
  go_wp2_with fail
  refine plan_act (by rfl) ?_
  go_wp2_with fail
  refine HL9.out.mono ?_
  rintro e w10 ⟨rfl, b10⟩
  clear x0 x1 x2 x3 x4 HL9
  have hcur := hcur.trans (b10.mono hcur.size)
  have HL10 := Lib.hid (lost_any (S.set 69 40) w6.heap.size 3 ⟨[16, 70], [43], 97, 0⟩ (.slice AF3 2 cF3) (.slice AP3 1 cP3) Z ⟨3, 97, 3, 1, 5⟩ w10 (HZ9.out.after b10) (by have := ofS_inv 3 (S.set 69 40); rwa [E3.out] at this) (by decide) (by decide))
  rw [E5.out] at HL10
  simp only [scCells, slCells, Int.cast_ofNat_Int] at HL10
  go_wp2_with fail
  refine ⟨hcur, plan_last (by rfl) (by kernel_rfl) ?_⟩
  go_wp2_with fail
  refine HL10.out.mono ?_
  unfold RetLost
  rintro e w11 ⟨vL, rfl, oL, b11⟩
  have oL : Ow w11 w10.heap.size 53 2 vL 1 [.int .u64 2, .int .u64 4] := oL
  obtain ⟨gl, cl, rfl, _, _⟩ := own_ptr oL (by decide)
  have hcur := hcur.trans (b11.mono hcur.size)
  have l0 := oL.cell rfl (by decide) (j := 0) (x := .int .u64 2) rfl
  have l1 := oL.cell rfl (by decide) (j := 1) (x := .int .u64 4) rfl
  rw [Nat.zero_add] at l0 l1
  have qx := QX.out.after hcur
  have qy := QY.out.after hcur
  have qz := QZ.out.after hcur
  have x1 := qx.cell 1
  have x3 := qx.cell 3
  have x4 := qx.cell 4
  have y1 := qy.cell 1
  have y3 := qy.cell 3
  have y4 := qy.cell 4
  have z1 := qz.cell 1
  have z2 := qz.cell 2
  have hx := HX.out.after hcur
  have hz := HZ.out.after hcur
  have oF := hx.2.1
  rw [HXL.out] at oF
  obtain ⟨gF, _, eA, _, _⟩ := own_ptr oF (by decide)
  injection eA with eA
  subst eA
  have oP := hz.2.2.1
  obtain ⟨gP, _, eP, _, _⟩ := own_ptr oP (by decide)
  injection eP with eP
  subst eP
  have p0 := oP.cell rfl (by decide) (j := 0) (x := .int .i64 43) rfl
  rw [Nat.zero_add] at p0
  obtain ⟨hi2, ho2⟩ := off_at hx.1 (i := 2) (o := 70) rfl
  have oF : Ow w11 w1.heap.size 46 9 (.slice (some ⟨gF, 0, none⟩) X.length cF) X.length (X.flatMap (FX.cells 3 S)) := by rw [HXL.out]; have := hx.2.1; rwa [HXL.out] at this
  have f0 := fx_cell oF hi2 0 (by decide)
  have f1 := fx_cell oF hi2 1 (by decide)
  simp only [FX.cells, ho2, Int.cast_ofNat_Int, Nat.reduceMul, Nat.reduceAdd] at f0 f1
  have HB11 := Lib.hid (HB8.out.trans (hcur.mono HB8.out.size))
  clear hcur oL qx qy qz hx hz oF oP HX HZ QX QY QZ HB8 HX9 HZ9 HL10 b11 b10
  go_wp2_with fail
  refine plan_calms (by simp [calmRow, need]; rfl) ?_
  go_wp2_with fail
  refine plan_end ?_
  clear ho2 hgb hgl hgw hgx hgy hz3 hz5 hg3 hc1
  go_wp2_with fail
  go_ret
  exact ⟨rfl, HB11.out⟩
end Go.Proofs.YtfapipamohlniaaDoor
