/- The law's rows of records: rows. For every row of steps. -/
import Derived.Test.YtnkkieiofpplgaaLkBy
import Derived.Test.YtnkkieiofpplgaaConv
namespace Go.Proofs.Ytnkkieiofpplgaa
open Go.RowKit
attribute [local go_sem] Oper.semAt_some

/-- a record as it lies in a row -/
structure LX where
  r : LR
  g : Nat
  cp : Nat
def LX.cells (x : LX) : List Value := [.int .u32 (x.r.at_.1 : Int), .int .u32 (x.r.at_.2 : Int), .int .i64 0, .int .u64 (x.r.q : Int), .int .i64 x.r.k, .slice (some ⟨x.g, 0, none⟩) 1 x.cp, .slice none 0 0, .int .u32 (x.r.pv.1 : Int), .int .u32 (x.r.pv.2 : Int)]
def LX.ok (x : LX) (w : World) : Prop := 1 ≤ x.cp ∧ KB w x.g [x.r.c]
def lxCells (l : List LX) : List Value := l.flatMap LX.cells
theorem lxCells_len (l : List LX) : (lxCells l).length = l.length * 9 := flatMap_len LX.cells 9 (fun _ => rfl) l
theorem LX.ok.after {x : LX} {w w' : World} (h : x.ok w) (hb : Below w.heap.size w w') : x.ok w' := ⟨h.1, h.2.after hb⟩
theorem Try.infoFound : (Try.prog.info? 40).map (fun i => (i.zero, i.size, i.bytes)) = some (some (.agg #[.int .u32 0, .int .u32 0, .int .i64 0, .int .u64 0, .int .i64 0, .slice none 0 0, .slice none 0 0, .int .u32 0, .int .u32 0]), 9, 88) := by kernel_rfl
theorem eltFound : Elt Try.prog 23 40 (.agg #[.int .u32 0, .int .u32 0, .int .i64 0, .int .u64 0, .int .i64 0, .slice none 0 0, .slice none 0 0, .int .u32 0, .int .u32 0]) 9 88 := ⟨Try.underlying23, Try.infoFound, rfl, by omega⟩
def RetRows (w : World) (d : List LR) (e : Ending) (w' : World) : Prop :=
  ∃ v X b D, e = .returned (.tuple #[v, .map (some b)]) ∧ X.map LX.r = d ∧ Ow w' w.heap.size 40 9 v X.length (lxCells X) ∧ (∀ x ∈ X, x.ok w') ∧ By w' w.heap.size b D ∧ Holds D d ∧ Below w.heap.size w w'
theorem st_get {l : List Stp} {j : Nat} {s : Stp} (hs : l[j]? = some s) {k : Nat} {v : Value} (hk : (stC s)[k]? = some v) : (stCells l)[j * 3 + k]? = some v := by
  have hk3 : k < 3 := (List.getElem?_eq_some_iff.1 hk).1
  have := flatMap_get stC 3 (fun _ => rfl) l j k hk3
  unfold stCells
  rw [this, hs]
  exact hk

theorem LX.ok.kp {s : List (Option Nat)} {x : LX} {w w' : World} (h : x.ok w) (k : Kp s w w') (hn : some x.g ∉ s) : x.ok w' := ⟨h.1, h.2.kp k hn⟩
theorem By.grown {w w' : World} {B b base size n : Nat} {D : List (UInt8 × (Value × List (Nat × Nat)))} {e : TypeId} {v : Value} {xs : List Value} (h : By w B b D) (ho : Ow w base e size v n xs) (hne : 34 ≠ e) (hg : w.grownBy w' v.ownBlock) : By w' B b D := by
  refine h.kp (Kp.grown hg) (fun hm => mp_own_ne h.map.1 ho (List.mem_singleton.1 hm)) fun p hp j hj hm => ?_
  have h1 := List.mem_singleton.1 hm
  rcases own_own_ne ho (h.own p hp) hne with h2 | h2
  · rw [h2] at hj; cases hj
  · exact h2 (hj.trans h1)
theorem lxCells_snoc (X : List LX) (x : LX) : lxCells (X ++ [x]) = lxCells X ++ x.cells := by unfold lxCells; rw [List.flatMap_append]; simp

set_option maxRecDepth 100000 in
set_option maxHeartbeats 8000000 in
theorem rows_any (l : List Stp) (A : Option Addr) (n c : Nat) (w : World) (hn : l.length = n) (hr : Rd w w.heap.size 3 A n (stCells l)) :
    Calls Try.prog 7 #[.slice A n c] w (RetRows w (rowsR (l.take 60))) := by
  obtain ⟨d0, hd0⟩ : ∃ d, d = rowsR (l.take 60) := ⟨_, rfl⟩
  rw [← hd0]
  have HD0 := Lib.hid hd0
  have HN := Lib.hid hn
  have HR := Lib.hid hr
  have b1 := (Below.refl w.heap.size w).alloc (Nat.le_refl _) (.map #[] 0)
  have y1 := By.new w
  clear hd0 hn hr
  go_enter Try.func7, Try.ntmps7
  have hmk : ∀ W, (Instr.makeMap 24 none).run Try.prog W = .ok (.map (some W.heap.size)) (W.alloc (.map #[] 0)) := fun W => run_makeMap _ W
  go_upto_region 3 with fail
  clear hmk
  generalize w.alloc (.map #[] 0) = w1 at *
  obtain ⟨bm, hbm⟩ : ∃ b, b = w.heap.size := ⟨_, rfl⟩
  have Y1 : Hid (By w1 w.heap.size bm []) := Lib.hid (by rw [hbm]; exact y1)
  rw [← hbm]
  have HB1 := Lib.hid b1
  clear hbm y1 b1
  go_wp2_with fail
  go_loopw [4, 6, 7] (fun v s i wr => ∃ (j : Nat) (X : List LX) (D : List (UInt8 × (Value × List (Nat × Nat)))), j ≤ n ∧ j ≤ 60 ∧ i = .int .i64 (j : Int) ∧ s = .int .u64 (seqOf (rowsR (l.take j)) : Int) ∧ seqOf (rowsR (l.take j)) ≤ 256 * j ∧ X.map LX.r = rowsR (l.take j) ∧ X.length = j ∧ Ow wr w.heap.size 40 9 v j (lxCells X) ∧ (∀ x ∈ X, x.ok wr) ∧ By wr w.heap.size bm D ∧ Holds D (rowsR (l.take j)) ∧ Below w.heap.size w wr) (fun _ _ i _ => 60 - (intOf i).toNat)
  case atStart => exact ⟨0, [], [], Nat.zero_le _, Nat.zero_le _, rfl, rfl, Nat.le_refl _, rfl, rfl, World.ownsRow_nil _ _ _ _, (fun x hx => by cases hx), Y1.out, Holds.nil, HB1.out⟩
  case round =>
    obtain ⟨j, X, D, hj, hj60, rfl, rfl, hsq, hxm, hxl, o, hok, hby, hho, hb⟩ := hrel
    obtain ⟨A4, c4, rfl, -⟩ := own_cap o
    have HXM := Lib.hid hxm
    have HXL := Lib.hid hxl
    have O : Hid (Ow _ _ _ _ _ _ _) := Lib.hid o
    have HOK := Lib.hid hok
    have HBY := Lib.hid hby
    have HHO := Lib.hid hho
    have HB := Lib.hid hb
    clear hxm hxl o hok hby hho hb
    by_cases hin : j < n ∧ j < 60
    · obtain ⟨h1, h2⟩ := hin
      have i1 : (j : Int) < (n : Int) := by omega
      have i2 : (j : Int) < 60 := by omega
      obtain ⟨p, off, rfl, hpl, hcell⟩ := HR.out.2.2 (by omega)
      obtain ⟨s, hs⟩ : ∃ s, l[j]? = some s := ⟨l[j]'(by rw [HN.out]; exact h1), List.getElem?_eq_getElem _⟩
      have htk : l.take (j + 1) = l.take j ++ [s] := by rw [List.take_add_one, hs]; rfl
      have hc := fun W (h : Below w.heap.size w W) k v (hk : (stC s)[k]? = some v) => (h.cell (p := ⟨p, off + (j * 3 + k), none⟩) hpl).trans (hcell _ _ (st_get hs hk))
      have HCELL := Lib.hid hc
      have HTK := Lib.hid htk
      clear hc hcell hs htk
      have ca : wr.cell? ⟨p, off + j * 3 + 1, none⟩ = some (.int .u8 (s.a.toNat : Int)) := by rw [Nat.add_assoc]; exact HCELL.out wr HB.out 1 _ rfl
      have ck : wr.cell? ⟨p, off + j * 3, none⟩ = some (.int .u8 (s.k.toNat : Int)) := HCELL.out wr HB.out 0 _ rfl
      obtain ⟨sq, hsq2⟩ : ∃ q, q = seqOf (rowsR (l.take j)) := ⟨_, rfl⟩
      rw [← hsq2] at hsq ⊢
      have HSQ := Lib.hid hsq2
      clear hsq2
      obtain ⟨q2, hq2⟩ : ∃ q, q = sq + (1 + s.a.toNat) := ⟨_, rfl⟩
      have hal := s.a.toNat_lt
      have hkl := s.k.toNat_lt
      have e6 : IntKind.u64.wrap ((sq : Int) + IntKind.u64.wrap (1 + IntKind.u64.wrap (s.a.toNat : Int))) = (q2 : Int) := by
        rw [IntKind.wrap_u64, IntKind.wrap_u64, IntKind.wrap_u64]
        omega
      obtain ⟨ch, hch⟩ : ∃ ch, ch = chS s := ⟨_, rfl⟩
      have e8 : 97 + (s.k.toNat : Int) % 8 = (ch.toNat : Int) := by
        rw [hch]
        unfold chS
        rw [UInt8.toNat_ofNat']
        omega
      have HQ2 := Lib.hid hq2
      have HCH := Lib.hid hch
      have E6 := Lib.hid e6
      have E8 := Lib.hid e8
      clear hq2 hch hal hkl e6 e8
      go_upto_region 9 with fail
      rw [E6.out, E8.out]
      clear ca ck
      have q4 := Blk.new wr 5 #[.int .u8 (ch.toNat : Int)]
      have b4 := belowAlloc (Below.refl wr.heap.size wr) (.cells #[.int .u8 (ch.toNat : Int)] 5)
      have hcv : (convert 36 9 (.slice (some ⟨wr.heap.size, 0, none⟩) 1 1)).run Try.prog (wr.alloc (.cells #[.int .u8 (ch.toNat : Int)] 5)) = .ok (.string ⟨#[ch]⟩) (wr.alloc (.cells #[.int .u8 (ch.toNat : Int)] 5)) := run_conv (P := Try.prog) (l := [ch]) Try.underlying36 Try.underlying5 Try.underlying9 1 (bcell_rd q4 rfl rfl (by unfold maxLen; omega))
      have PU : Hid (Calls Try.prog 25 #[.int .u64 (q2 : Int), .string ⟨#[ch]⟩, .int .u32 16, .agg #[.int .u32 0, .int .u32 0]] (wr.alloc (.cells #[.int .u8 (ch.toNat : Int)] 5)) (RetPutF q2 [ch] 16 (0, 0) (wr.alloc (.cells #[.int .u8 (ch.toNat : Int)] 5)))) := Lib.hid (putF_any q2 [ch] 16 (0, 0) (by simp) _)
      have HB := Lib.hid (belowGo HB.out b4)
      have O : Hid (Ow _ _ _ _ _ _ _) := Lib.hid (Ow.after O.out b4)
      have HOK := Lib.hid (fun x hx => (HOK.out x hx).after b4)
      have HBY := Lib.hid (HBY.out.after b4)
      clear q4 b4
      go_wp2_with fail
      clear hcv
      refine PU.out.mono ?_
      rintro e w3 ⟨g3, c3, rfl, hc3, -, ⟨-, kb3⟩, b3⟩
      have HB3 := Lib.hid (belowGo HB.out b3)
      have O3 : Hid (Ow _ _ _ _ _ _ _) := Lib.hid (Ow.after O.out b3)
      have HOK3 := Lib.hid (fun x hx => (HOK.out x hx).after b3)
      have HBY3 := Lib.hid (HBY.out.after b3)
      have KB3 := Lib.hid kb3
      have HC3 := Lib.hid hc3
      clear HB O HOK HBY
      clear PU kb3 hc3 b3
      go_upto_region 11 with fail
      have cg : (w3.alloc (.cells #[.int .u32 (1 + (j : Int) / 10), .int .u32 (16 + (j : Int) % 10 * 30), .int .i64 0, .int .u64 (q2 : Int), .int .i64 1, .slice (some ⟨g3, 0, none⟩) 1 c3, .slice none 0 0, .int .u32 0, .int .u32 0] 40)).cell? ⟨p, off + j * 3 + 2, none⟩ = some (.bool s.gone) := by rw [Nat.add_assoc]; exact HCELL.out _ (belowGo HB3.out (belowAlloc (Below.refl _ _) _)) 2 _ rfl
      obtain ⟨kd, hkd⟩ : ∃ k : Int, k = if s.gone then 2 else 1 := ⟨_, rfl⟩
      obtain ⟨gn, hgn⟩ : ∃ b, b = s.gone := ⟨_, rfl⟩
      rw [← hgn] at cg hkd
      have HKD := Lib.hid hkd
      have HGN := Lib.hid hgn
      clear hkd hgn
      obtain ⟨at_, hat⟩ : ∃ a : Nat × Nat, a = locI j := ⟨_, rfl⟩
      have ea1 : 1 + (j : Int) / 10 = (at_.1 : Int) := by rw [hat]; unfold locI; omega
      have ea2 : 16 + (j : Int) % 10 * 30 = (at_.2 : Int) := by rw [hat]; unfold locI; omega
      have HAT := Lib.hid hat
      have EA1 := Lib.hid ea1
      have EA2 := Lib.hid ea2
      clear hat ea1 ea2
      go_upto_if 59 with fail
      rw [EA1.out, EA2.out]
      rw [EA1.out, EA2.out] at cg
      go_cut [] from 59 to 61 (fun wx => Below w3.heap.size w3 wx ∧ Blk wx w3.heap.size 40 #[.int .u32 (at_.1 : Int), .int .u32 (at_.2 : Int), .int .i64 0, .int .u64 (q2 : Int), .int .i64 kd, .slice (some ⟨g3, 0, none⟩) 1 c3, .slice none 0 0, .int .u32 0, .int .u32 0])
      case first =>
        cases gn with
        | true =>
          clear cg
          go_wp2_with fail
          go_meet
          case rel => exact ⟨belowAlloc (Below.refl _ _) _, by rw [HKD.out]; exact Blk.new w3 _ _⟩
        | false =>
          clear cg
          go_wp2_with fail
          go_meet
          case rel => exact ⟨belowAlloc (Below.refl _ _) _, by rw [HKD.out]; exact Blk.new w3 _ _⟩
      obtain ⟨hb5, qf⟩ := hcut
      have HB5 := Lib.hid hb5
      have QF := Lib.hid qf
      have HBY := Lib.hid (HBY3.out.after hb5)
      obtain ⟨g9, hg9⟩ : ∃ g, g = w3.heap.size := ⟨_, rfl⟩
      rw [← hg9] at QF ⊢
      have HG9 := Lib.hid hg9
      have hcu := HBY.out.cur ch
      have hlk := HBY.out.look ch
      obtain ⟨Ac, cc, hcur, hcc⟩ := own_cap hcu
      rw [hcur] at hlk
      unfold u8V at hlk
      obtain ⟨nL, hnL⟩ : ∃ n, n = (curD D ch).2.length := ⟨_, rfl⟩
      rw [← hnL] at hlk hcur
      have HCU := Lib.hid hcu
      have HCR := Lib.hid hcur
      have HNL := Lib.hid hnL
      clear hb5 qf hg9 hcu hcur hnL hcc
      obtain ⟨pv, hpv⟩ : ∃ p : Nat × Nat, p = ((curD D ch).2.getLast?).getD (0, 0) := ⟨_, rfl⟩
      have HPV := Lib.hid hpv
      clear hpv
      have hm60 : nL ≤ 60 := by
        have h1 : (locsOf (rowsR (l.take j)) ch).length ≤ (rowsR (l.take j)).length := by unfold locsOf; rw [List.length_map]; exact List.length_filter_le _ _
        rw [rowsR_len, List.length_take] at h1
        rw [HNL.out, HHO.out]
        omega
      have HM60 := Lib.hid hm60
      clear hm60
      go_upto_if 67 with fail
      go_cut [10, 64, 65] from 67 to 76 (fun x10 x64 x65 wx => Below w3.heap.size w3 wx ∧ Blk wx g9 40 #[.int .u32 (at_.1 : Int), .int .u32 (at_.2 : Int), .int .i64 0, .int .u64 (q2 : Int), .int .i64 kd, .slice (some ⟨g3, 0, none⟩) 1 c3, .slice none 0 0, .int .u32 (pv.1 : Int), .int .u32 (pv.2 : Int)])
      case first =>
        rcases Nat.eq_zero_or_pos nL with h0 | h0
        · have hl0 : (curD D ch).2 = [] := List.eq_nil_of_length_eq_zero (HNL.out.symm.trans h0)
          have hp : pv = (0, 0) := by rw [HPV.out, hl0]; rfl
          have QF2 : Hid (Blk wc g9 40 #[.int .u32 (at_.1 : Int), .int .u32 (at_.2 : Int), .int .i64 0, .int .u64 (q2 : Int), .int .i64 kd, .slice (some ⟨g3, 0, none⟩) 1 c3, .slice none 0 0, .int .u32 (pv.1 : Int), .int .u32 (pv.2 : Int)]) := Lib.hid (by rw [hp]; exact QF.out)
          subst h0
          clear hl0 hp
          go_wp2_with fail
          go_meet
          case rel => exact ⟨HB5.out, QF2.out⟩
        · obtain ⟨m, hm⟩ : ∃ m, nL = m + 1 := ⟨nL - 1, by omega⟩
          subst hm
          have hcu := HCU.out
          rw [HCR.out, ← HNL.out] at hcu
          obtain ⟨gc, c9, he, -, -⟩ := own_ptr hcu (by omega)
          injection he with he he2 he3
          subst he
          have hpm : (curD D ch).2[m]? = some pv := by
            have hml := HNL.out
            rw [HPV.out, List.getLast?_eq_getElem?, show (curD D ch).2.length - 1 = m by omega, List.getElem?_eq_getElem (show m < (curD D ch).2.length by omega)]
            rfl
          have hat : At wc gc (m * 2) [.int .u32 (pv.1 : Int), .int .u32 (pv.2 : Int)] := fun k u hu => by
            have hk2 : k < 2 := (List.getElem?_eq_some_iff.1 hu).1
            have h9 := flatMap_get (fun l : Nat × Nat => [Value.int .u32 (l.1 : Int), .int .u32 (l.2 : Int)]) 2 (fun _ => rfl) (curD D ch).2 m k hk2
            have h10 : (lcs (curD D ch).2)[m * 2 + k]? = some u := by
              unfold lcs
              rw [h9, hpm]
              exact hu
            have := Ow.cell hcu rfl (by omega) h10
            rwa [Nat.zero_add] at this
          have HATM := Lib.hid hat
          have c7 := QF.out.cell 7
          have f7 := QF.out.frozen 7
          have c8 := QF.out.cell 8
          have f8 := QF.out.frozen 8
          have QF2 := Lib.hid ((QF.out.set_ 7 (.int .u32 (pv.1 : Int))).set_ 8 (.int .u32 (pv.2 : Int)))
          have hi0 : (0 : Int) < (m : Int) + 1 := by omega
          have hwm : wrap64 (m : Int) = (m : Int) := by have := HM60.out; unfold wrap64; omega
          clear hcu he2 hpm hat h0
          go_upto_region 16 with (first
            | (refine wpList_value rfl (exec_load_mid rfl rfl HATM.out Try.underlying34 rfl (by kernel_rfl)) ?_)
            | fail)
          go_meet
          case rel => exact ⟨(HB5.out.setCell (p := ⟨g9, 7, none⟩) (by rw [HG9.out]; exact Nat.le_refl _) _).setCell (p := ⟨g9, 8, none⟩) (by rw [HG9.out]; exact Nat.le_refl _) _, QF2.out⟩
      obtain ⟨hb7, qf7⟩ := hcut
      clear hlk HBY HCU QF HB5
      have QF := Lib.hid qf7
      have HBA := Lib.hid (belowGo HB3.out hb7)
      have O7 : Hid (Ow _ _ _ _ _ _ _) := Lib.hid (Ow.after O3.out hb7)
      have HOK7 := Lib.hid (fun x hx => (HOK3.out x hx).after hb7)
      have HBY := Lib.hid (HBY3.out.after hb7)
      have KB7 := Lib.hid (KB3.out.after hb7)
      clear hb7 qf7 O3 HOK3 HBY3 KB3 HB3
      have hlk := HBY.out.look ch
      rw [HCR.out] at hlk
      unfold u8V at hlk
      have hat0 : At wc g9 0 [.int .u32 (at_.1 : Int), .int .u32 (at_.2 : Int)] := fun k v hv => by
        rw [QF.out.cell]
        match k, hv with
        | 0, hv => exact hv
        | 1, hv => exact hv
        | k + 2, hv => simp at hv
      have HAT0 := Lib.hid hat0
      clear hat0
      go_upto_region 17 with (first
        | (refine wpList_value rfl (exec_load_mid rfl rfl HAT0.out Try.underlying34 rfl (by kernel_rfl)) ?_)
        | (at_builtin
           go_loud (refine wpList_push eltLoc rfl (.tmp 81) (.tmp 84) rfl (W := wc) HCR.out.symm (HBY.out.cur ch) rfl rfl (by simp [Value.oneCell']) (by have := HNL.out; have := HM60.out; omega) (by have := HNL.out; have := HM60.out; unfold maxLen; omega) HBA.out HBA.out.size ?_)
           go_loud (
             intro v6 w6 o6 b6 g6 x6
             obtain ⟨ob, hrun, hby8, k8⟩ := HBY.out.put ch at_ g6 o6 (fun j hj => by
               rcases x6 with x6 | x6
               · exact .inl (x6.symm.trans hj)
               · right
                 have hj := x6.symm.trans hj
                 injection hj with hj
                 omega)
             have HR8 := Lib.hid hrun
             have HBY8 := Lib.hid hby8
             have hbm : some bm ≠ (curD D ch).1.ownBlock := mp_own_ne HBY.out.map.1 (HBY.out.cur ch)
             have O8 : Hid (Ow _ _ _ _ _ _ _) := Lib.hid (Ow.kp (Ow.grownT O7.out (HBY.out.cur ch) (by decide) g6) k8 fun i hi hm => mp_own_ne HBY.out.map.1 O7.out ((List.mem_singleton.1 hm).symm.trans hi.symm))
             have HOK8 := Lib.hid (fun x hx => ((HOK7.out x hx).kp (Kp.grown g6) fun hm => (HOK7.out x hx).2.ne_own (HBY.out.cur ch) (by decide) (List.mem_singleton.1 hm)).kp k8 fun hm => (HOK7.out x hx).2.ne_map HBY.out.map.1 (by simpa using hm))
             have KB8 := Lib.hid ((KB7.out.kp (Kp.grown g6) fun hm => KB7.out.ne_own (HBY.out.cur ch) (by decide) (List.mem_singleton.1 hm)).kp k8 fun hm => KB7.out.ne_map HBY.out.map.1 (by simpa using hm))
             have QF8 := Lib.hid ((QF.out.kp (Kp.grown g6) fun hm => own_blk_ne QF.out (HBY.out.cur ch) (by decide) (List.mem_singleton.1 hm)).kp k8 fun hm => mp_blk_ne HBY.out.map.1 QF.out (by simpa using (List.mem_singleton.1 hm).symm))
             have HB8 := Lib.hid (setBlock_below b6 HBY.out.lo ob)
             clear o6 b6 g6 x6 hrun hby8 k8 hbm hlk O7 HOK7 KB7 QF HBA))
        | (refine wpList_skip rfl (exec_update rfl HR8.out) ?_)
        | fail)
      obtain ⟨w8, hw8⟩ : ∃ W, W = Go.ChangeMaps.setBlock w6 bm ob := ⟨_, rfl⟩
      rw [← hw8] at HBY8 O8 HOK8 KB8 QF8 HB8 ⊢
      clear HR8 hw8
      go_wp2_with (first
        | (refine wpList_value rfl (exec_load_blk rfl rfl QF8.out Try.underlying40 rfl (by kernel_rfl)) ?_)
        | (at_builtin
           go_loud (refine wpList_push eltFound rfl (.tmp 86) (.tmp 88) rfl (W := w8) rfl O8.out rfl rfl (by simp [Value.oneCell']) (by omega) (by unfold maxLen; omega) HB8.out HB8.out.size ?_
                    intro v9 w9 o9 b9 g9' x9
                    have HBY9 := Lib.hid (HBY8.out.grown O8.out (by decide) g9')
                    have HOK9 := Lib.hid (fun x hx => (HOK8.out x hx).kp (Kp.grown g9') fun hm => (HOK8.out x hx).2.ne_own O8.out (by decide) (List.mem_singleton.1 hm))
                    have KB9 := Lib.hid (KB8.out.kp (Kp.grown g9') fun hm => KB8.out.ne_own O8.out (by decide) (List.mem_singleton.1 hm))
                    have O9 := Lib.hid o9
                    have HB9 := Lib.hid b9
                    clear o9 b9 g9' x9 O8 HOK8 KB8 QF8 HB8 HBY8))
        | fail)
      go_roundw
      case rel =>
        have hr : nextR (rowsR (l.take j)) s = ⟨at_, q2, kd, ch, pv⟩ := by
          unfold nextR
          rw [← HCH.out, ← HHO.out ch, ← HPV.out, ← HSQ.out, ← HQ2.out, ← HGN.out, ← HKD.out]
          rw [show (rowsR (l.take j)).length = j by rw [← HXM.out, List.length_map, HXL.out], ← HAT.out]
        refine ⟨j + 1, X ++ [⟨⟨at_, q2, kd, ch, pv⟩, g3, c3⟩], _, by omega, by omega, by go_num, ?_, ?_, ?_, ?_, ?_, ?_, HBY9.out, ?_, HB9.out⟩
        · rw [HTK.out, rowsR_snoc, hr, seqOf_snoc]
        · rw [HTK.out, rowsR_snoc, hr, seqOf_snoc]
          show q2 ≤ _
          have := HQ2.out
          have := s.a.toNat_lt
          omega
        · rw [HTK.out, rowsR_snoc, hr, List.map_append, HXM.out]
          rfl
        · rw [List.length_append, HXL.out]
          rfl
        · rw [lxCells_snoc]
          exact O9.out
        · intro x hx
          rcases List.mem_append.1 hx with h | h
          · exact HOK9.out x h
          · rw [List.mem_singleton.1 h]
            exact ⟨HC3.out, KB9.out⟩
        · rw [HTK.out, rowsR_snoc, hr]
          exact HHO.out.put ⟨at_, q2, kd, ch, pv⟩ v6
      case measure => simp [intOf]; omega
    · have HE : Hid (l.take j = l.take 60) := Lib.hid (by
        have hn := HN.out
        by_cases h60 : j = 60
        · rw [h60]
        · rw [List.take_of_length_le (by omega), List.take_of_length_le (by omega)])
      by_cases hjn : j < n
      · have i1 : (j : Int) < (n : Int) := by omega
        have i2 : ¬ ((j : Int) < 60) := by omega
        go_wp2_with fail
        exact bodyPost_ret (results_tmp2 rfl) rfl ⟨_, X, bm, D, rfl, by rw [HD0.out, HXM.out, HE.out], by rw [HXL.out]; exact O.out, HOK.out, HBY.out, by rw [HD0.out, ← HE.out]; exact HHO.out, HB.out⟩
      · have i1 : ¬ ((j : Int) < (n : Int)) := by omega
        go_wp2_with fail
        exact bodyPost_ret (results_tmp2 rfl) rfl ⟨_, X, bm, D, rfl, by rw [HD0.out, HXM.out, HE.out], by rw [HXL.out]; exact O.out, HOK.out, HBY.out, by rw [HD0.out, ← HE.out]; exact HHO.out, HB.out⟩
end Go.Proofs.Ytnkkieiofpplgaa
