/- ScanMore: true. No condition but the tables. -/
import Derived.Test.YtfapipamohlniaaDoorScMc
import Derived.Test.YtfapipamohlniaaDoorScMb
import Derived.Test.YtfapipamohlniaaDoorLocEqM
namespace Go.Proofs.YtfapipamohlniaaDoor
open Go.RowKit

/-- what is found, at place i of the row in block g: where it stands, how long its run is, its number, key and value -/
structure FRow (w : World) (g i : Nat) (off len q : Nat) (a b : List UInt8) (gK gV : Nat) : Prop where
  at_ : At w g (i * 9) [.int .u32 7, .int .u32 (off : Int), .int .i64 (len : Int), .int .u64 (q : Int), .int .i64 1, .slice (some ⟨gK, 0, none⟩) a.length a.length, .slice (some ⟨gV, 0, none⟩) b.length b.length, .int .u32 0, .int .u32 0]
  lt : g < w.heap.size
  rK : Rd w w.heap.size 1 (some ⟨gK, 0, none⟩) a.length (bcells a)
  rV : Rd w w.heap.size 1 (some ⟨gV, 0, none⟩) b.length (bcells b)
theorem FRow.after {w w' : World} {g i off len q gK gV : Nat} {a b : List UInt8} (h : FRow w g i off len q a b gK gV) (hb : Below w.heap.size w w') : FRow w' g i off len q a b gK gV :=
  ⟨h.at_.after h.lt hb, Nat.lt_of_lt_of_le h.lt hb.size, h.rK.after hb, h.rV.after hb⟩
theorem FRow.cell {w : World} {g i off len q gK gV : Nat} {a b : List UInt8} (h : FRow w g i off len q a b gK gV) (j : Nat) (v : Value) (hv : ([.int .u32 7, .int .u32 (off : Int), .int .i64 (len : Int), .int .u64 (q : Int), .int .i64 1, .slice (some ⟨gK, 0, none⟩) a.length a.length, .slice (some ⟨gV, 0, none⟩) b.length b.length, .int .u32 0, .int .u32 0] : List Value)[j]? = some v) : w.cell? ⟨g, i * 9 + j, none⟩ = some v := h.at_ j v hv
theorem FRow.sz {w : World} {g i off len q gK gV : Nat} {a b : List UInt8} (h : FRow w g i off len q a b gK gV) : w.cell? ⟨g, i * 9 + 2, none⟩ = some (.int .i64 (len : Int)) := h.at_ 2 _ rfl
theorem FRow.sq {w : World} {g i off len q gK gV : Nat} {a b : List UInt8} (h : FRow w g i off len q a b gK gV) : w.cell? ⟨g, i * 9 + 3, none⟩ = some (.int .u64 (q : Int)) := h.at_ 3 _ rfl
theorem at_sub {w : World} {b o : Nat} {cs : List Value} (h : At w b o cs) (k n : Nat) : At w b (o + k) ((cs.drop k).take n) := fun j v hv => by
  rw [List.getElem?_take] at hv
  split at hv
  · rw [List.getElem?_drop] at hv
    rw [Nat.add_assoc]
    exact h _ _ hv
  · cases hv
theorem FRow.loc {w : World} {g i off len q gK gV : Nat} {a b : List UInt8} (h : FRow w g i off len q a b gK gV) : At w g (i * 9) [.int .u32 7, .int .u32 (off : Int)] := at_sub h.at_ 0 2
theorem FRow.rc {w : World} {g i off len q gK gV : Nat} {a b : List UInt8} (h : FRow w g i off len q a b gK gV) : At w g (i * 9 + 3) [.int .u64 (q : Int), .int .i64 1, .slice (some ⟨gK, 0, none⟩) a.length a.length, .slice (some ⟨gV, 0, none⟩) b.length b.length, .int .u32 0, .int .u32 0] := at_sub h.at_ 3 6
theorem neq_loc (s o : Nat) (p q : Operand) (w : World) : (do eqGuard .neq 42 p q (.agg #[.int .u32 (s : Int), .int .u32 (o : Int)]) (.agg #[.int .u32 (s : Int), .int .u32 (o : Int)]); binOp .neq 42 (.agg #[.int .u32 (s : Int), .int .u32 (o : Int)]) (.agg #[.int .u32 (s : Int), .int .u32 (o : Int)]) : Sem Value).run Tryd.prog w = .ok (.bool false) w := by
  have := run_neq_agg (P := Tryd.prog) (w := w) (t := 42) (p := p) (q := q) (by kernel_rfl) (equal_loc s o s o w)
  rw [show decide (s = s ∧ o = o) = true by simp] at this
  exact this
theorem equal_per (s o s' o' : Nat) (w : World) : (Op.equal 53 (.agg #[.int .u64 (s : Int), .int .u64 (o : Int)]) (.agg #[.int .u64 (s' : Int), .int .u64 (o' : Int)])).run Tryd.prog w = .ok (decide (s = s' ∧ o = o')) w := by
  rw [run_equal_int2 Tryd.underlying53 (by kernel_rfl) (by decide) (by decide) rfl rfl Tryd.underlying37 Tryd.underlying37]
  congr 1
  rw [Bool.eq_iff_iff]
  simp
  omega
theorem eql_per (s o : Nat) (p q : Operand) (w : World) : (do eqGuard .eql 53 p q (.agg #[.int .u64 (s : Int), .int .u64 (o : Int)]) (.agg #[.int .u64 (s : Int), .int .u64 (o : Int)]); binOp .eql 53 (.agg #[.int .u64 (s : Int), .int .u64 (o : Int)]) (.agg #[.int .u64 (s : Int), .int .u64 (o : Int)]) : Sem Value).run Tryd.prog w = .ok (.bool true) w := by
  have := run_eql_agg (P := Tryd.prog) (w := w) (t := 53) (p := p) (q := q) (by kernel_rfl) (equal_per s o s o w)
  rw [show decide (s = s ∧ o = o) = true by simp] at this
  exact this
/-- behind the two seals -/
def RSeals (w0 : World) (a b : Array Value) (v12 v13 : Value) (wx : World) : Prop := ∃ gA gB, v12 = .pointer (some ⟨gA, 0, none⟩) ∧ v13 = .pointer (some ⟨gB, 0, none⟩) ∧ Blk wx gA 39 a ∧ Blk wx gB 39 b ∧ Below w0.heap.size w0 wx
theorem keyG_rd {w : World} {g : Nat} {l : List UInt8} {n : Nat} (h : Blk w g 5 (bcells l).toArray) (hl : l.length = n) (hn : n ≤ maxLen) : Rd w w.heap.size 1 (some ⟨g, 0, none⟩) n (bcells l) := blk_rdb h hl hn
theorem scRow_at {l : List PlX} {m : Nat} (hm : m ≤ l.length) (h20 : m ≤ 20) (hf : ∀ x ∈ l, x.fits) {lo : Nat} {g c : Nat} {vP : Value} {X : List FX} {w : World} (h : ScRow lo (segX l m) 7 (scX l m) (.slice (some ⟨g, 0, none⟩) X.length c) vP X w) {i : Nat} (hi : i < m) :
    ∃ gK gV, FRow w g i (offX l i) (prX l i).len (seqL (l.take (i + 1))) (prX l i).a (prX l i).b gK gV := by
  obtain ⟨hx, ho⟩ := off_at h.1 (i := i) (o := offX l i) (getElem_rangeX l hi)
  obtain ⟨t1, t2, t3, t4, t5, t6, t7, t8⟩ := told_segX hm h20 hf hi
  have hq := seq_segX hm h20 hf hi
  have hok := h.2.2.2 _ (List.getElem_mem hx)
  have hmy := prX_may (l := l) (i := i) (by omega) (by omega) hf
  have hbd := mayR_bounds hmy
  have hcl : (X[i]).cells 7 (segX l m) = [.int .u32 7, .int .u32 (offX l i : Int), .int .i64 ((prX l i).len : Int), .int .u64 (seqL (l.take (i + 1)) : Int), .int .i64 1, .slice (some ⟨(X[i]).gK, 0, none⟩) (prX l i).a.length (prX l i).a.length, .slice (some ⟨(X[i]).gV, 0, none⟩) (prX l i).b.length (prX l i).b.length, .int .u32 0, .int .u32 0] := by
    unfold FX.cells
    rw [ho, t3, t4, t5, t6, t7, t8, hq]
    rfl
  unfold FX.ok at hok
  rw [ho, t1, t2] at hok
  refine ⟨(X[i]).gK, (X[i]).gV, fun j v hv => ?_, ?_, blk_rdb hok.1 rfl (by unfold maxLen; omega), blk_rdb hok.2.1 rfl (by unfold maxLen; omega)⟩
  · have hj : j < 9 := by
      have := (List.getElem?_eq_some_iff.1 hv).1
      simpa using this
    rw [fx_cell h.2.1 hx j hj, hcl]
    exact hv
  · obtain ⟨_, _, e, hl, _⟩ := (own_rd h.2.1).2.2 (by omega)
    injection e with e
    injection e with e1 e2
    subst e1
    exact hl
theorem scX_len (l : List PlX) (m : Nat) {lo : Nat} {b : List UInt8} {vF vP : Value} {X : List FX} {w : World} (h : ScRow lo b 7 (scX l m) vF vP X w) : X.length = m := by
  rw [← List.length_map (f := FX.off), h.1]
  unfold scX
  simp
/-- a scan of the law's segment, in a block -/
structure ScBl (l : List PlX) (m : Nat) (w : World) (g lo : Nat) (A : Option Addr) (c : Nat) (P : Option Addr) (d : Nat) (X : List FX) : Prop where
  q : Blk w g 33 #[.int .u32 7, .slice A m c, .slice P 0 d, .int .i64 (offX l m : Int), .int .i64 0]
  r : ScRow lo (segX l m) 7 (scX l m) (.slice A m c) (.slice P 0 d) X w
  n : X.length = m
theorem ScBl.after {l : List PlX} {m : Nat} {w w' : World} {g lo : Nat} {A : Option Addr} {c : Nat} {P : Option Addr} {d : Nat} {X : List FX} (h : ScBl l m w g lo A c P d X) (hb : Below w.heap.size w w') : ScBl l m w' g lo A c P d X := ⟨h.q.after hb, h.r.after hb, h.n⟩
theorem ScBl.row {l : List PlX} {m : Nat} (hm : m ≤ l.length) (h20 : m ≤ 20) (hf : ∀ x ∈ l, x.fits) {w : World} {g lo : Nat} {A : Option Addr} {c : Nat} {P : Option Addr} {d : Nat} {X : List FX} (h : ScBl l m w g lo A c P d X) {i : Nat} (hi : i < m) :
    ∃ gF, A = some ⟨gF, 0, none⟩ ∧ ∃ gK gV, FRow w gF i (offX l i) (prX l i).len (seqL (l.take (i + 1))) (prX l i).a (prX l i).b gK gV := by
  obtain ⟨_, hr, rfl⟩ := h
  obtain ⟨gF, c', hA, _, _⟩ := own_ptr hr.2.1 (by omega)
  injection hA with hA
  subst hA
  exact ⟨gF, rfl, scRow_at hm h20 hf hr hi⟩
theorem seal_segX {l : List PlX} {m : Nat} (hm : m ≤ l.length) (h20 : m ≤ 20) (hf : ∀ x ∈ l, x.fits) {w : World} {g lo : Nat} {A : Option Addr} {c : Nat} {P : Option Addr} {d : Nat} {X : List FX} (h : ScBl l m w g lo A c P d X) :
    Calls Tryd.prog 11 #[.agg #[.int .u32 7, .slice A m c, .slice P 0 d, .int .i64 (offX l m : Int), .int .i64 0]] w fun e w' => e = .returned (.agg #[.int .u32 7, .int .u32 (offX l m : Int), .int .u32 (m : Int), .int .u64 (firstX l m : Int), .int .u64 (seqL (l.take m) : Int)]) ∧ Below w.heap.size w w' := by
  have := seal_any lo (segX l m) 7 (scX l m) (.slice A m c) (.slice P 0 d) X w h.r (by have := (offX_le l m).2; unfold scX; dsimp only; omega) (by unfold scX; simp; omega)
  rw [sealS_segX hm h20 hf] at this
  exact this
theorem lost_segX {l : List PlX} {k m : Nat} (hkm : k ≤ m) (hm : m ≤ l.length) (h20 : m ≤ 20) (hf : ∀ x ∈ l, x.fits) {w : World} {g lo : Nat} {A : Option Addr} {c : Nat} {P : Option Addr} {d : Nat} {X : List FX} (h : ScBl l k w g lo A c P d X) :
    Calls Tryd.prog 10 #[.agg #[.int .u32 7, .slice A k c, .slice P 0 d, .int .i64 (offX l k : Int), .int .i64 0], .agg #[.int .u32 7, .int .u32 (offX l m : Int), .int .u32 (m : Int), .int .u64 (firstX l m : Int), .int .u64 (seqL (l.take m) : Int)]] w (RetLost (if k = m then [] else [(if k = 0 then firstX l m else seqL (l.take k) + 1, seqL (l.take m))]) w) := by
  have hi := ofS_inv 7 (segX l k)
  rw [ofS_segX (by omega) (by omega) hf] at hi
  have := lost_any (segX l k) lo 7 (scX l k) (.slice A k c) (.slice P 0 d) X ⟨7, offX l m, m, firstX l m, seqL (l.take m)⟩ w h.r hi (by have := (offX_le l k).2; unfold scX; dsimp only; omega) (by unfold scX; simp; omega)
  rw [lostS_segX hkm hm h20 hf] at this
  exact this

set_option maxRecDepth 100000 in
set_option maxHeartbeats 8000000 in
theorem more_walk (l : List PlX) (A : Option Addr) (n c pt : Nat) (w : World) (hT : TabR w) (hl : l.length = n) (hf : ∀ x ∈ l, x.fits) (hr : Rd w w.heap.size 3 A n (l.flatMap PlX.cells)) (hpt : pt < 256) :
    Calls Tryd.prog 7 #[.slice A n c, .int .u8 (pt : Int)] w fun e w' => e = .returned (.bool true) ∧ Below w.heap.size w w' := by
  have H1 := lays_any l A n c w hl hf hr
  obtain ⟨m, hm⟩ : ∃ m, m = min n 20 := ⟨_, rfl⟩
  rw [← hm] at H1
  have hml : m ≤ l.length := by omega
  have hm20 : m ≤ 20 := by omega
  obtain ⟨k, hk⟩ : ∃ k, k = pt % (m + 1) := ⟨_, rfl⟩
  have hkm : k ≤ m := by have := Nat.mod_lt pt (show 0 < m + 1 by omega); omega
  have ek : (pt : Int) % ((m : Int) + 1) = (k : Int) := by rw [hk]; simp
  have hm1 : ((m : Int) + 1) ≠ 0 := by omega
  have H1 := Lib.hid H1
  clear hm hk hr hl
  go_enter Tryd.func7, Tryd.ntmps7
  go_wp2_with fail
  refine H1.out.mono ?_
  rintro e w1 ⟨v, u, rfl, ob, ou, b1⟩
  clear H1
  obtain ⟨Ab, cb, rfl, hcb⟩ := own_cap ob
  obtain ⟨Au, cu, rfl⟩ := own_slice ou
  have hT1 := hT.after b1
  have hTB := hT
  have OB : Hid (Ow _ _ _ _ _ _ _) := Lib.hid ob
  have OU : Hid (Ow _ _ _ _ _ _ _) := Lib.hid ou
  have HB := Lib.hid b1
  have HT := Lib.hid hT1
  clear ob ou b1 hT1 hT
  go_upto_region 3 with (fail)
  rw [ek]
  have HEK := Lib.hid ek
  clear ek hm1
  go_upto_if 28 with (fail)
  go_cut [8] from 28 to 34 (fun v8 wx => v8 = .int .i64 (offX l k : Int) ∧ wx = w1)
  case first =>
    by_cases h0 : k = 0
    · have i1 : ¬ (0 : Int) < (k : Int) := by omega
      have H0 := Lib.hid h0
      clear h0
      go_wp2_with fail
      go_meet
      case rel => exact ⟨by rw [H0.out, offX_zero]; rfl, rfl⟩
    · have i1 : (0 : Int) < (k : Int) := by omega
      obtain ⟨g, c', hA, _, _⟩ := own_ptr OU.out (by omega)
      injection hA with hA e1 e2
      clear e1 e2
      subst hA
      obtain ⟨j, hj⟩ : ∃ j, j = k - 1 := ⟨_, rfl⟩
      have hj1 : j + 1 = k := by omega
      have ej : (k : Int) - 1 = (j : Int) := by omega
      have cj := OU.out.cell rfl (by omega) (j := j * 3 + 1) (x := .int .i64 (offX l k : Int)) (by rw [plCells_get l (by omega) (by omega)]; unfold plRow; rw [hj1]; rfl)
      rw [Nat.zero_add] at cj
      have i2 : (j : Int) < (m : Int) := by omega
      clear hj hj1 h0
      go_wp2_with fail
      go_meet
      case rel => exact ⟨rfl, rfl⟩
  case rest =>
  obtain ⟨rfl, rfl⟩ := hcut
  have hle := offX_mono l hkm
  have hlm := (offX_le l m).2
  have hik : ((offX l k : Nat) : Int) ≤ (cb : Int) := by omega
  have rb := own_rd OB.out
  have rk := rb.btake (k := offX l k) hle
  rw [segX_take l hkm] at rk
  have HO1 := of_any 7 (segX l k) Ab (offX l k) cb wc HT.out (by omega) rk (by omega)
  unfold RetSc at HO1
  rw [ofS_segX (by omega) (by omega) hf] at HO1
  have HO1 := Lib.hid HO1
  have RB := Lib.hid rb
  have HIK := Lib.hid hlm
  clear hlm rb rk
  simp only [Int.cast_ofNat_Int] at HO1
  go_wp2_with fail
  refine HO1.out.mono ?_
  rintro e w2 ⟨vF, vP, X, rfl, sX, b2⟩
  have hXl := scX_len l k sX
  obtain ⟨AF, cF, rfl⟩ := own_slice sX.2.1
  obtain ⟨AP, cP, rfl⟩ := own_slice sX.2.2.1
  have hT2 := HT.out.after b2
  have rb := RB.out.after b2
  have hb2 := belowGo HB.out b2
  have ou2 : Ow _ _ _ _ _ _ _ := Ow.after OU.out b2
  clear HT RB HB OU HO1 OB
  simp only [scCells, scX, hXl, List.length_nil, Int.cast_ofNat_Int]
  have HO2 := of_any 7 (segX l m) Ab (offX l m) cb w2 hT2 hcb rb (by have := HIK.out; omega)
  unfold RetSc at HO2
  rw [ofS_segX hml hm20 hf] at HO2
  have HO2 := Lib.hid HO2
  simp only [Int.cast_ofNat_Int] at HO2
  have SX := Lib.hid sX
  have HX := Lib.hid hXl
  have HT := Lib.hid hT2
  have HB := Lib.hid hb2
  have OU : Hid (Ow _ _ _ _ _ _ _) := Lib.hid ou2
  clear sX hXl hT2 rb hb2 ou2 b2
  go_wp2_with fail
  refine HO2.out.mono ?_
  rintro e w3 ⟨vF2, vP2, Y, rfl, sY, b3⟩
  have hYl := scX_len l m sY
  obtain ⟨AG, cG, rfl⟩ := own_slice sY.2.1
  obtain ⟨AQ, cQ, rfl⟩ := own_slice sY.2.2.1
  have sX := SX.out.after b3
  have hT3 := HT.out.after b3
  have hb3 := belowGo HB.out b3
  have ou3 : Ow _ _ _ _ _ _ _ := Ow.after OU.out b3
  have hXl := HX.out
  rw [hXl] at sX
  rw [hYl] at sY
  clear HT HB OU HX SX HO2 b3
  simp only [scCells, scX, hYl, List.length_nil, Int.cast_ofNat_Int]
  have C1 : Hid True := Lib.hid trivial
  have bA := (Below.refl w3.heap.size w3).alloc (Nat.le_refl _) (.cells #[.int .u32 7, .slice AF k cF, .slice AP 0 cP, .int .i64 (offX l k : Int), .int .i64 0] 33)
  have qX := Blk.newAt w3 33 #[.int .u32 7, .slice AF k cF, .slice AP 0 cP, .int .i64 (offX l k : Int), .int .i64 0] (g := w3.heap.size) rfl
  have bB := (Below.refl (w3.alloc (.cells #[.int .u32 7, .slice AF k cF, .slice AP 0 cP, .int .i64 (offX l k : Int), .int .i64 0] 33)).heap.size _).alloc (Nat.le_refl _) (.cells #[.int .u32 7, .slice AG m cG, .slice AQ 0 cQ, .int .i64 (offX l m : Int), .int .i64 0] 33)
  have qY := Blk.newAt (w3.alloc (.cells #[.int .u32 7, .slice AF k cF, .slice AP 0 cP, .int .i64 (offX l k : Int), .int .i64 0] 33)) 33 #[.int .u32 7, .slice AG m cG, .slice AQ 0 cQ, .int .i64 (offX l m : Int), .int .i64 0] (g := w3.heap.size + 1) (by simp)
  have BX : ScBl l k _ w3.heap.size wc.heap.size AF cF AP cP X := ⟨qX.after bB, (sX.after bA).after bB, hXl⟩
  have BY : ScBl l m _ (w3.heap.size + 1) w2.heap.size AG cG AQ cQ Y := ⟨qY, (sY.after bA).after bB, hYl⟩
  have hT4 := (hT3.after bA).after bB
  have hb4 := belowGo (belowGo hb3 bA) bB
  have ou4 : Ow _ _ _ _ _ _ _ := Ow.after (Ow.after ou3 bA) bB
  obtain ⟨gX, hgX⟩ : ∃ g, g = w3.heap.size := ⟨_, rfl⟩
  obtain ⟨gY, hgY⟩ : ∃ g, g = w3.heap.size + 1 := ⟨_, rfl⟩
  have nXY : gX ≠ gY := by omega
  rw [← hgX] at BX
  rw [← hgY] at BY
  have HGX := Lib.hid hgX
  have HGY := Lib.hid hgY
  have BX := Lib.hid BX
  have BY := Lib.hid BY
  have HT := Lib.hid hT4
  have HB := Lib.hid hb4
  have OU : Hid (Ow _ _ _ _ _ _ _) := Lib.hid ou4
  clear bA bB qX qY sX sY hT3 hb3 ou3 hXl hYl hT4 hb4 ou4 hgX hgY
  go_upto_region 7 with (fail)
  rw [← HGY.out, ← HGX.out]
  clear HGX HGY HO1 HO2 C1 HIK HEK
  generalize (w3.alloc (.cells #[.int .u32 7, .slice AF k cF, .slice AP 0 cP, .int .i64 (offX l k : Int), .int .i64 0] 33)).alloc (.cells #[.int .u32 7, .slice AG m cG, .slice AQ 0 cQ, .int .i64 (offX l m : Int), .int .i64 0] 33) = w4 at *
  have x1 := BX.out.q.cell 1
  have x4 := BX.out.q.cell 4
  have y1 := BY.out.q.cell 1
  have y4 := BY.out.q.cell 4
  go_wp2_with fail
  clear x1 x4 y1 y4
  go_loopw [11] (fun i wr => ∃ j : Nat, j ≤ k ∧ i = .int .i64 (j : Int) ∧ Below w4.heap.size w4 wr) (fun i _ => k - (intOf i).toNat)
  case atStart => exact ⟨0, Nat.zero_le _, rfl, Below.refl _ _⟩
  case round =>
    obtain ⟨j, hj, rfl, hb⟩ := hrel
    by_cases hlt : j < k
    · have i1 : (j : Int) < (k : Int) := by omega
      have i2 : (j : Int) < (m : Int) := by omega
      obtain ⟨gF, rfl, gK, gV, F1⟩ := BX.out.row (by omega) (by omega) hf hlt
      obtain ⟨gG, rfl, gK2, gV2, F2⟩ := BY.out.row hml hm20 hf (show j < m by omega)
      have F1 := F1.after hb
      have F2 := F2.after hb
      have qx := BX.out.q.after hb
      have qy := BY.out.q.after hb
      generalize offX l j = of at *
      generalize (prX l j).len = ln at *
      generalize seqL (l.take (j + 1)) = sq at *
      generalize (prX l j).a = ka at *
      generalize (prX l j).b = va at *
      have QX := Lib.hid qx
      have QY := Lib.hid qy
      have HSm := fun W h1 h2 h3 h4 => Lib.hid (sameR_any sq 1 ka va (some ⟨gK, 0, none⟩) ka.length ka.length (some ⟨gV, 0, none⟩) va.length va.length 0 0 sq 1 ka va (some ⟨gK2, 0, none⟩) ka.length ka.length (some ⟨gV2, 0, none⟩) va.length va.length 0 0 W h1 h2 h3 h4)
      rw [show sameR sq 1 ka va 0 0 sq 1 ka va 0 0 = true by unfold sameR; simp] at HSm
      unfold recV at HSm
      have R1 := Lib.hid F1
      have R2 := Lib.hid F2
      have HBj := Lib.hid hb
      have HLT := Lib.hid hlt
      clear F1 F2 qx qy hb hlt
      go_upto_region 12 with (fail)
      have hc0 := Below.drew_ wr
      refine wp_region_tree (fun W => Below wr.heap.size wr W) (row [.calms [0, 2, 6, 8], .read 1, .calms [3, 4], .read 5, .read 7, .calms [9, 10], .read 11, .read 12, .calms [13, 14, 16, 20, 22], .read 15, .calms [17, 18], .read 19, .read 21, .calms [23, 24], .read 25, .calms [26, 27, 28, 29, 31, 35, 37], .read 30, .calms [32, 33], .read 34, .read 36, .calms [38, 39], .read 40, .act 41, .calms [42, 43]] .done) (by kernel_rfl) (by rfl) (by kernel_rfl) (by kernel_rfl) hc0 ?_
      have HC := Lib.hid hc0
      clear hc0
      generalize wr.drew = wd at *
      refine plan_calms (by simp [calmRow, need]; rfl) ?_
      go_wp2_with fail
      refine plan_read (by rfl) (.slice (some ⟨gF, 0, none⟩) k cF) (by rfl) (fun W hW => exec_load rfl rfl (by kernel_rfl) ((QX.out.after hW).cell 1)) ?_
      refine plan_calms (by simp [calmRow, need]; rfl) ?_
      go_wp2_with fail
      refine plan_read (by rfl) (.agg #[.int .u32 7, .int .u32 (of : Int)]) (by rfl) (fun W hW => exec_load_mid rfl rfl (R1.out.after hW).loc Tryd.underlying42 rfl (by kernel_rfl)) ?_
      refine plan_read (by rfl) (.slice (some ⟨gG, 0, none⟩) m cG) (by rfl) (fun W hW => exec_load rfl rfl (by kernel_rfl) ((QY.out.after hW).cell 1)) ?_
      refine plan_calms (by simp [calmRow, need]; rfl) ?_
      go_wp2_with fail
      refine plan_read (by rfl) (.agg #[.int .u32 7, .int .u32 (of : Int)]) (by rfl) (fun W hW => exec_load_mid rfl rfl (R2.out.after hW).loc Tryd.underlying42 rfl (by kernel_rfl)) ?_
      refine plan_read (by rfl) (.bool false) (by rfl) (fun W hW => exec_bin rfl (neq_loc 7 of _ _ W)) ?_
      refine plan_calms (by simp [calmRow, need]; rfl) ?_
      go_wp2_with fail
      refine plan_read (by rfl) (.slice (some ⟨gF, 0, none⟩) k cF) (by rfl) (fun W hW => exec_load rfl rfl (by kernel_rfl) ((QX.out.after hW).cell 1)) ?_
      refine plan_calms (by simp [calmRow, need]; rfl) ?_
      go_wp2_with fail
      refine plan_read (by rfl) (.int .i64 (ln : Int)) (by rfl) (fun W hW => exec_load rfl rfl (by kernel_rfl) (R1.out.after hW).sz) ?_
      refine plan_read (by rfl) (.slice (some ⟨gG, 0, none⟩) m cG) (by rfl) (fun W hW => exec_load rfl rfl (by kernel_rfl) ((QY.out.after hW).cell 1)) ?_
      refine plan_calms (by simp [calmRow, need]; rfl) ?_
      go_wp2_with fail
      refine plan_read (by rfl) (.int .i64 (ln : Int)) (by rfl) (fun W hW => exec_load rfl rfl (by kernel_rfl) (R2.out.after hW).sz) ?_
      refine plan_calms (by simp [calmRow, need, chk]; rfl) ?_
      go_wp2_with fail
      refine plan_read (by rfl) (.slice (some ⟨gF, 0, none⟩) k cF) (by rfl) (fun W hW => exec_load rfl rfl (by kernel_rfl) ((QX.out.after hW).cell 1)) ?_
      refine plan_calms (by simp [calmRow, need]; rfl) ?_
      go_wp2_with fail
      refine plan_read (by rfl) (.agg #[.int .u64 (sq : Int), .int .i64 1, .slice (some ⟨gK, 0, none⟩) ka.length ka.length, .slice (some ⟨gV, 0, none⟩) va.length va.length, .int .u32 0, .int .u32 0]) (by rfl) (fun W hW => exec_load_mid rfl rfl (R1.out.after hW).rc Tryd.underlying44 rfl (by kernel_rfl)) ?_
      refine plan_read (by rfl) (.slice (some ⟨gG, 0, none⟩) m cG) (by rfl) (fun W hW => exec_load rfl rfl (by kernel_rfl) ((QY.out.after hW).cell 1)) ?_
      refine plan_calms (by simp [calmRow, need]; rfl) ?_
      go_wp2_with fail
      refine plan_read (by rfl) (.agg #[.int .u64 (sq : Int), .int .i64 1, .slice (some ⟨gK2, 0, none⟩) ka.length ka.length, .slice (some ⟨gV2, 0, none⟩) va.length va.length, .int .u32 0, .int .u32 0]) (by rfl) (fun W hW => exec_load_mid rfl rfl (R2.out.after hW).rc Tryd.underlying44 rfl (by kernel_rfl)) ?_
      refine plan_last (by rfl) (by kernel_rfl) ?_
      go_wp2_with fail
      refine (HSm _ (R1.out.after HC.out).rK (R1.out.after HC.out).rV (R2.out.after HC.out).rK (R2.out.after HC.out).rV).out.mono ?_
      rintro e y1 ⟨rfl, hBe⟩
      have HC := Lib.hid (belowGo HC.out hBe)
      clear hBe
      go_wp2_with fail
      refine plan_calms (by simp [calmRow, need]; rfl) ?_
      go_wp2_with fail
      refine plan_end ?_
      go_wp2_with fail
      go_roundw
      case rel => exact ⟨j + 1, by have := HLT.out; omega, by go_num, HBj.out.trans (HC.out.mono HBj.out.size)⟩
      case measure => have := HLT.out; simp [intOf]; omega
    · have i1 : ¬ (j : Int) < (k : Int) := by omega
      have B0 := BX.out.after hb
      have B1 := BY.out.after hb
      have hT0 := HT.out.after hb
      have hb0 := belowGo HB.out hb
      have BX := Lib.hid B0
      have BY := Lib.hid B1
      have HT := Lib.hid hT0
      have HB := Lib.hid hb0
      clear B0 B1 hT0 hb0 hb hlt OU
      go_upto_region 14 with (fail)
      go_cut [12, 13] from 113 to 116 (fun v12 v13 wx => RSeals wr #[.int .u32 7, .int .u32 (offX l k : Int), .int .u32 (k : Int), .int .u64 (firstX l k : Int), .int .u64 (seqL (l.take k) : Int)] #[.int .u32 7, .int .u32 (offX l m : Int), .int .u32 (m : Int), .int .u64 (firstX l m : Int), .int .u64 (seqL (l.take m) : Int)] v12 v13 wx)
      case first =>
        have hc0 := Below.drew_ wr
        refine wp_region_tree (fun W => Below wr.heap.size wr W) (row [.read 0, .read 2] (.fork3 1 (row [] (.fork3 3 (row [] (.fork 4 (row [.act 5, .act 6, .act 7] .done) 5 (row [.act 4, .act 6, .act 7] .done))) 4 (row [] (.fork 3 (row [.act 5, .act 6, .act 7] .done) 5 (row [.act 3, .act 6, .act 7] .done))) 5 (row [] (.fork 3 (row [.act 4, .act 6, .act 7] .done) 4 (row [.act 3, .act 6, .act 7] .done))))) 4 (row [] (.fork 1 (row [] (.fork 3 (row [.act 5, .act 6, .act 7] .done) 5 (row [.act 3, .act 6, .act 7] .done))) 5 (row [.act 1, .act 3, .act 6, .act 7] .done))) 5 (row [] (.fork 1 (row [] (.fork 3 (row [.act 4, .act 6, .act 7] .done) 4 (row [.act 3, .act 6, .act 7] .done))) 4 (row [.act 1, .act 3, .act 6, .act 7] .done))))) (by kernel_rfl) (by rfl) (by kernel_rfl) (by kernel_rfl) hc0 ?_
        have HC := Lib.hid hc0
        clear hc0
        generalize wr.drew = wd at *
        have HB0 := HB
        have HB := HC
        refine plan_read (by rfl) (.agg #[.int .u32 7, .slice AF k cF, .slice AP 0 cP, .int .i64 (offX l k : Int), .int .i64 0]) (by rfl) (fun W hW => exec_load_blk rfl rfl (BX.out.after hW).q Tryd.underlying33 rfl (by kernel_rfl)) ?_
        refine plan_read (by rfl) (.agg #[.int .u32 7, .slice AG m cG, .slice AQ 0 cQ, .int .i64 (offX l m : Int), .int .i64 0]) (by rfl) (fun W hW => exec_load_blk rfl rfl (BY.out.after hW).q Tryd.underlying33 rfl (by kernel_rfl)) ?_
        refine plan_fork3 (by rfl) (by rfl) (by rfl) ?_ ?_ ?_
        · skip
          go_wp2_with fail
          refine (Lib.hid (seal_segX (by omega) (by omega) hf (BX.out.after HB.out))).out.mono ?_
          rintro e y2 ⟨rfl, hBe⟩
          have HB := Lib.hid (belowGo HB.out hBe)
          clear hBe
          go_wp2_with fail
          refine ⟨HB.out, ?_⟩
          refine plan_fork3 (by rfl) (by rfl) (by rfl) ?_ ?_ ?_
          · skip
            go_wp2_with fail
            refine (Lib.hid (seal_segX (by omega) (by omega) hf (BY.out.after HB.out))).out.mono ?_
            rintro e y3 ⟨rfl, hBe⟩
            have HB := Lib.hid (belowGo HB.out hBe)
            clear hBe
            go_wp2_with fail
            refine ⟨HB.out, ?_⟩
            refine plan_fork (by rfl) (by rfl) ?_ ?_
            · skip
              go_wp2_with fail
              have hBe := (Below.refl _ y3).alloc (Nat.le_refl _) (.cells #[.int .u32 0, .int .u32 0, .int .u32 0, .int .u64 0, .int .u64 0] 39)
              have qA := Blk.new y3 39 #[.int .u32 0, .int .u32 0, .int .u32 0, .int .u64 0, .int .u64 0]
              have hsz := HB.out.size
              obtain ⟨gA, hgA⟩ : ∃ g, g = y3.heap.size := ⟨_, rfl⟩
              rw [← hgA] at qA ⊢
              have bA : wr.heap.size ≤ gA := by omega
              have HB := Lib.hid (belowGo HB.out hBe)
              have QA := Lib.hid qA
              clear hgA hsz hBe qA 
              generalize y3.alloc (.cells #[.int .u32 0, .int .u32 0, .int .u32 0, .int .u64 0, .int .u64 0] 39) = y4 at *
              refine ⟨HB.out, ?_⟩
              refine plan_act (by rfl) ?_
              go_wp2_with fail
              have lA := QA.out.lt
              have hBe := (Below.refl _ y4).alloc (Nat.le_refl _) (.cells #[.int .u32 0, .int .u32 0, .int .u32 0, .int .u64 0, .int .u64 0] 39)
              have qB := Blk.new y4 39 #[.int .u32 0, .int .u32 0, .int .u32 0, .int .u64 0, .int .u64 0]
              have hsz := HB.out.size
              obtain ⟨gB, hgB⟩ : ∃ g, g = y4.heap.size := ⟨_, rfl⟩
              rw [← hgB] at qB ⊢
              have bB : wr.heap.size ≤ gB := by omega
              have nAB : gA ≠ gB := by omega
              have HB := Lib.hid (belowGo HB.out hBe)
              have QA := Lib.hid (QA.out.after hBe)
              have QB := Lib.hid qB
              clear hgB hsz hBe qB lA
              generalize y4.alloc (.cells #[.int .u32 0, .int .u32 0, .int .u32 0, .int .u64 0, .int .u64 0] 39) = y5 at *
              refine ⟨HB.out, ?_⟩
              refine plan_last (by rfl) (by kernel_rfl) ?_
              have d0 := QA.out.cell 0
              have f0 := QA.out.frozen 0
              have d1 := QA.out.cell 1
              have f1 := QA.out.frozen 1
              have d2 := QA.out.cell 2
              have f2 := QA.out.frozen 2
              have d3 := QA.out.cell 3
              have f3 := QA.out.frozen 3
              have d4 := QA.out.cell 4
              have f4 := QA.out.frozen 4
              go_wp2_with fail
              have HB := Lib.hid (((((HB.out.setCell (p := ⟨gA, 0, none⟩) bA (.int .u32 7)).setCell (p := ⟨gA, 1, none⟩) bA (.int .u32 (offX l k : Int))).setCell (p := ⟨gA, 2, none⟩) bA (.int .u32 (k : Int))).setCell (p := ⟨gA, 3, none⟩) bA (.int .u64 (firstX l k : Int))).setCell (p := ⟨gA, 4, none⟩) bA (.int .u64 (seqL (l.take k) : Int)))
              have QB := Lib.hid (((((QB.out.far (p := ⟨gA, 0, none⟩) nAB.symm (.int .u32 7)).far (p := ⟨gA, 1, none⟩) nAB.symm (.int .u32 (offX l k : Int))).far (p := ⟨gA, 2, none⟩) nAB.symm (.int .u32 (k : Int))).far (p := ⟨gA, 3, none⟩) nAB.symm (.int .u64 (firstX l k : Int))).far (p := ⟨gA, 4, none⟩) nAB.symm (.int .u64 (seqL (l.take k) : Int)))
              have qA : Blk (World.setCell (World.setCell (World.setCell (World.setCell (World.setCell y5 ⟨gA, 0, none⟩ (.int .u32 7)) ⟨gA, 1, none⟩ (.int .u32 (offX l k : Int))) ⟨gA, 2, none⟩ (.int .u32 (k : Int))) ⟨gA, 3, none⟩ (.int .u64 (firstX l k : Int))) ⟨gA, 4, none⟩ (.int .u64 (seqL (l.take k) : Int))) gA _ #[.int .u32 7, .int .u32 (offX l k : Int), .int .u32 (k : Int), .int .u64 (firstX l k : Int), .int .u64 (seqL (l.take k) : Int)] := (blk_eq (((((QA.out.set_ 0 (.int .u32 7)).set_ 1 (.int .u32 (offX l k : Int))).set_ 2 (.int .u32 (k : Int))).set_ 3 (.int .u64 (firstX l k : Int))).set_ 4 (.int .u64 (seqL (l.take k) : Int))) rfl)
              have QA := Lib.hid qA
              clear qA d0 f0 d1 f1 d2 f2 d3 f3 d4 f4
              generalize (World.setCell (World.setCell (World.setCell (World.setCell (World.setCell y5 ⟨gA, 0, none⟩ (.int .u32 7)) ⟨gA, 1, none⟩ (.int .u32 (offX l k : Int))) ⟨gA, 2, none⟩ (.int .u32 (k : Int))) ⟨gA, 3, none⟩ (.int .u64 (firstX l k : Int))) ⟨gA, 4, none⟩ (.int .u64 (seqL (l.take k) : Int))) = y6 at *
              refine plan_last (by rfl) (by kernel_rfl) ?_
              have d0 := QB.out.cell 0
              have f0 := QB.out.frozen 0
              have d1 := QB.out.cell 1
              have f1 := QB.out.frozen 1
              have d2 := QB.out.cell 2
              have f2 := QB.out.frozen 2
              have d3 := QB.out.cell 3
              have f3 := QB.out.frozen 3
              have d4 := QB.out.cell 4
              have f4 := QB.out.frozen 4
              go_wp2_with fail
              have HB := Lib.hid (((((HB.out.setCell (p := ⟨gB, 0, none⟩) bB (.int .u32 7)).setCell (p := ⟨gB, 1, none⟩) bB (.int .u32 (offX l m : Int))).setCell (p := ⟨gB, 2, none⟩) bB (.int .u32 (m : Int))).setCell (p := ⟨gB, 3, none⟩) bB (.int .u64 (firstX l m : Int))).setCell (p := ⟨gB, 4, none⟩) bB (.int .u64 (seqL (l.take m) : Int)))
              have QA := Lib.hid (((((QA.out.far (p := ⟨gB, 0, none⟩) nAB (.int .u32 7)).far (p := ⟨gB, 1, none⟩) nAB (.int .u32 (offX l m : Int))).far (p := ⟨gB, 2, none⟩) nAB (.int .u32 (m : Int))).far (p := ⟨gB, 3, none⟩) nAB (.int .u64 (firstX l m : Int))).far (p := ⟨gB, 4, none⟩) nAB (.int .u64 (seqL (l.take m) : Int)))
              have qB : Blk (World.setCell (World.setCell (World.setCell (World.setCell (World.setCell y6 ⟨gB, 0, none⟩ (.int .u32 7)) ⟨gB, 1, none⟩ (.int .u32 (offX l m : Int))) ⟨gB, 2, none⟩ (.int .u32 (m : Int))) ⟨gB, 3, none⟩ (.int .u64 (firstX l m : Int))) ⟨gB, 4, none⟩ (.int .u64 (seqL (l.take m) : Int))) gB _ #[.int .u32 7, .int .u32 (offX l m : Int), .int .u32 (m : Int), .int .u64 (firstX l m : Int), .int .u64 (seqL (l.take m) : Int)] := (blk_eq (((((QB.out.set_ 0 (.int .u32 7)).set_ 1 (.int .u32 (offX l m : Int))).set_ 2 (.int .u32 (m : Int))).set_ 3 (.int .u64 (firstX l m : Int))).set_ 4 (.int .u64 (seqL (l.take m) : Int))) rfl)
              have QB := Lib.hid qB
              clear qB d0 f0 d1 f1 d2 f2 d3 f3 d4 f4
              generalize (World.setCell (World.setCell (World.setCell (World.setCell (World.setCell y6 ⟨gB, 0, none⟩ (.int .u32 7)) ⟨gB, 1, none⟩ (.int .u32 (offX l m : Int))) ⟨gB, 2, none⟩ (.int .u32 (m : Int))) ⟨gB, 3, none⟩ (.int .u64 (firstX l m : Int))) ⟨gB, 4, none⟩ (.int .u64 (seqL (l.take m) : Int))) = y7 at *
              refine plan_end ?_
              go_wp2_with fail
              go_meet
              case rel => exact ⟨gA, gB, rfl, rfl, QA.out, QB.out, HB.out⟩
            · skip
              go_wp2_with fail
              have hBe := (Below.refl _ y3).alloc (Nat.le_refl _) (.cells #[.int .u32 0, .int .u32 0, .int .u32 0, .int .u64 0, .int .u64 0] 39)
              have qB := Blk.new y3 39 #[.int .u32 0, .int .u32 0, .int .u32 0, .int .u64 0, .int .u64 0]
              have hsz := HB.out.size
              obtain ⟨gB, hgB⟩ : ∃ g, g = y3.heap.size := ⟨_, rfl⟩
              rw [← hgB] at qB ⊢
              have bB : wr.heap.size ≤ gB := by omega
              have HB := Lib.hid (belowGo HB.out hBe)
              have QB := Lib.hid qB
              clear hgB hsz hBe qB 
              generalize y3.alloc (.cells #[.int .u32 0, .int .u32 0, .int .u32 0, .int .u64 0, .int .u64 0] 39) = y8 at *
              refine ⟨HB.out, ?_⟩
              refine plan_act (by rfl) ?_
              go_wp2_with fail
              have lB := QB.out.lt
              have hBe := (Below.refl _ y8).alloc (Nat.le_refl _) (.cells #[.int .u32 0, .int .u32 0, .int .u32 0, .int .u64 0, .int .u64 0] 39)
              have qA := Blk.new y8 39 #[.int .u32 0, .int .u32 0, .int .u32 0, .int .u64 0, .int .u64 0]
              have hsz := HB.out.size
              obtain ⟨gA, hgA⟩ : ∃ g, g = y8.heap.size := ⟨_, rfl⟩
              rw [← hgA] at qA ⊢
              have bA : wr.heap.size ≤ gA := by omega
              have nAB : gA ≠ gB := by omega
              have HB := Lib.hid (belowGo HB.out hBe)
              have QB := Lib.hid (QB.out.after hBe)
              have QA := Lib.hid qA
              clear hgA hsz hBe qA lB
              generalize y8.alloc (.cells #[.int .u32 0, .int .u32 0, .int .u32 0, .int .u64 0, .int .u64 0] 39) = y9 at *
              refine ⟨HB.out, ?_⟩
              refine plan_last (by rfl) (by kernel_rfl) ?_
              have d0 := QA.out.cell 0
              have f0 := QA.out.frozen 0
              have d1 := QA.out.cell 1
              have f1 := QA.out.frozen 1
              have d2 := QA.out.cell 2
              have f2 := QA.out.frozen 2
              have d3 := QA.out.cell 3
              have f3 := QA.out.frozen 3
              have d4 := QA.out.cell 4
              have f4 := QA.out.frozen 4
              go_wp2_with fail
              have HB := Lib.hid (((((HB.out.setCell (p := ⟨gA, 0, none⟩) bA (.int .u32 7)).setCell (p := ⟨gA, 1, none⟩) bA (.int .u32 (offX l k : Int))).setCell (p := ⟨gA, 2, none⟩) bA (.int .u32 (k : Int))).setCell (p := ⟨gA, 3, none⟩) bA (.int .u64 (firstX l k : Int))).setCell (p := ⟨gA, 4, none⟩) bA (.int .u64 (seqL (l.take k) : Int)))
              have QB := Lib.hid (((((QB.out.far (p := ⟨gA, 0, none⟩) nAB.symm (.int .u32 7)).far (p := ⟨gA, 1, none⟩) nAB.symm (.int .u32 (offX l k : Int))).far (p := ⟨gA, 2, none⟩) nAB.symm (.int .u32 (k : Int))).far (p := ⟨gA, 3, none⟩) nAB.symm (.int .u64 (firstX l k : Int))).far (p := ⟨gA, 4, none⟩) nAB.symm (.int .u64 (seqL (l.take k) : Int)))
              have qA : Blk (World.setCell (World.setCell (World.setCell (World.setCell (World.setCell y9 ⟨gA, 0, none⟩ (.int .u32 7)) ⟨gA, 1, none⟩ (.int .u32 (offX l k : Int))) ⟨gA, 2, none⟩ (.int .u32 (k : Int))) ⟨gA, 3, none⟩ (.int .u64 (firstX l k : Int))) ⟨gA, 4, none⟩ (.int .u64 (seqL (l.take k) : Int))) gA _ #[.int .u32 7, .int .u32 (offX l k : Int), .int .u32 (k : Int), .int .u64 (firstX l k : Int), .int .u64 (seqL (l.take k) : Int)] := (blk_eq (((((QA.out.set_ 0 (.int .u32 7)).set_ 1 (.int .u32 (offX l k : Int))).set_ 2 (.int .u32 (k : Int))).set_ 3 (.int .u64 (firstX l k : Int))).set_ 4 (.int .u64 (seqL (l.take k) : Int))) rfl)
              have QA := Lib.hid qA
              clear qA d0 f0 d1 f1 d2 f2 d3 f3 d4 f4
              generalize (World.setCell (World.setCell (World.setCell (World.setCell (World.setCell y9 ⟨gA, 0, none⟩ (.int .u32 7)) ⟨gA, 1, none⟩ (.int .u32 (offX l k : Int))) ⟨gA, 2, none⟩ (.int .u32 (k : Int))) ⟨gA, 3, none⟩ (.int .u64 (firstX l k : Int))) ⟨gA, 4, none⟩ (.int .u64 (seqL (l.take k) : Int))) = y10 at *
              refine plan_last (by rfl) (by kernel_rfl) ?_
              have d0 := QB.out.cell 0
              have f0 := QB.out.frozen 0
              have d1 := QB.out.cell 1
              have f1 := QB.out.frozen 1
              have d2 := QB.out.cell 2
              have f2 := QB.out.frozen 2
              have d3 := QB.out.cell 3
              have f3 := QB.out.frozen 3
              have d4 := QB.out.cell 4
              have f4 := QB.out.frozen 4
              go_wp2_with fail
              have HB := Lib.hid (((((HB.out.setCell (p := ⟨gB, 0, none⟩) bB (.int .u32 7)).setCell (p := ⟨gB, 1, none⟩) bB (.int .u32 (offX l m : Int))).setCell (p := ⟨gB, 2, none⟩) bB (.int .u32 (m : Int))).setCell (p := ⟨gB, 3, none⟩) bB (.int .u64 (firstX l m : Int))).setCell (p := ⟨gB, 4, none⟩) bB (.int .u64 (seqL (l.take m) : Int)))
              have QA := Lib.hid (((((QA.out.far (p := ⟨gB, 0, none⟩) nAB (.int .u32 7)).far (p := ⟨gB, 1, none⟩) nAB (.int .u32 (offX l m : Int))).far (p := ⟨gB, 2, none⟩) nAB (.int .u32 (m : Int))).far (p := ⟨gB, 3, none⟩) nAB (.int .u64 (firstX l m : Int))).far (p := ⟨gB, 4, none⟩) nAB (.int .u64 (seqL (l.take m) : Int)))
              have qB : Blk (World.setCell (World.setCell (World.setCell (World.setCell (World.setCell y10 ⟨gB, 0, none⟩ (.int .u32 7)) ⟨gB, 1, none⟩ (.int .u32 (offX l m : Int))) ⟨gB, 2, none⟩ (.int .u32 (m : Int))) ⟨gB, 3, none⟩ (.int .u64 (firstX l m : Int))) ⟨gB, 4, none⟩ (.int .u64 (seqL (l.take m) : Int))) gB _ #[.int .u32 7, .int .u32 (offX l m : Int), .int .u32 (m : Int), .int .u64 (firstX l m : Int), .int .u64 (seqL (l.take m) : Int)] := (blk_eq (((((QB.out.set_ 0 (.int .u32 7)).set_ 1 (.int .u32 (offX l m : Int))).set_ 2 (.int .u32 (m : Int))).set_ 3 (.int .u64 (firstX l m : Int))).set_ 4 (.int .u64 (seqL (l.take m) : Int))) rfl)
              have QB := Lib.hid qB
              clear qB d0 f0 d1 f1 d2 f2 d3 f3 d4 f4
              generalize (World.setCell (World.setCell (World.setCell (World.setCell (World.setCell y10 ⟨gB, 0, none⟩ (.int .u32 7)) ⟨gB, 1, none⟩ (.int .u32 (offX l m : Int))) ⟨gB, 2, none⟩ (.int .u32 (m : Int))) ⟨gB, 3, none⟩ (.int .u64 (firstX l m : Int))) ⟨gB, 4, none⟩ (.int .u64 (seqL (l.take m) : Int))) = y11 at *
              refine plan_end ?_
              go_wp2_with fail
              go_meet
              case rel => exact ⟨gA, gB, rfl, rfl, QA.out, QB.out, HB.out⟩
          · skip
            go_wp2_with fail
            have hBe := (Below.refl _ y2).alloc (Nat.le_refl _) (.cells #[.int .u32 0, .int .u32 0, .int .u32 0, .int .u64 0, .int .u64 0] 39)
            have qA := Blk.new y2 39 #[.int .u32 0, .int .u32 0, .int .u32 0, .int .u64 0, .int .u64 0]
            have hsz := HB.out.size
            obtain ⟨gA, hgA⟩ : ∃ g, g = y2.heap.size := ⟨_, rfl⟩
            rw [← hgA] at qA ⊢
            have bA : wr.heap.size ≤ gA := by omega
            have HB := Lib.hid (belowGo HB.out hBe)
            have QA := Lib.hid qA
            clear hgA hsz hBe qA 
            generalize y2.alloc (.cells #[.int .u32 0, .int .u32 0, .int .u32 0, .int .u64 0, .int .u64 0] 39) = y12 at *
            refine ⟨HB.out, ?_⟩
            refine plan_fork (by rfl) (by rfl) ?_ ?_
            · skip
              go_wp2_with fail
              refine (Lib.hid (seal_segX (by omega) (by omega) hf (BY.out.after HB.out))).out.mono ?_
              rintro e y13 ⟨rfl, hBe⟩
              have HB := Lib.hid (belowGo HB.out hBe)
              have QA := Lib.hid (QA.out.after hBe)
              clear hBe
              go_wp2_with fail
              refine ⟨HB.out, ?_⟩
              refine plan_act (by rfl) ?_
              go_wp2_with fail
              have lA := QA.out.lt
              have hBe := (Below.refl _ y13).alloc (Nat.le_refl _) (.cells #[.int .u32 0, .int .u32 0, .int .u32 0, .int .u64 0, .int .u64 0] 39)
              have qB := Blk.new y13 39 #[.int .u32 0, .int .u32 0, .int .u32 0, .int .u64 0, .int .u64 0]
              have hsz := HB.out.size
              obtain ⟨gB, hgB⟩ : ∃ g, g = y13.heap.size := ⟨_, rfl⟩
              rw [← hgB] at qB ⊢
              have bB : wr.heap.size ≤ gB := by omega
              have nAB : gA ≠ gB := by omega
              have HB := Lib.hid (belowGo HB.out hBe)
              have QA := Lib.hid (QA.out.after hBe)
              have QB := Lib.hid qB
              clear hgB hsz hBe qB lA
              generalize y13.alloc (.cells #[.int .u32 0, .int .u32 0, .int .u32 0, .int .u64 0, .int .u64 0] 39) = y14 at *
              refine ⟨HB.out, ?_⟩
              refine plan_last (by rfl) (by kernel_rfl) ?_
              have d0 := QA.out.cell 0
              have f0 := QA.out.frozen 0
              have d1 := QA.out.cell 1
              have f1 := QA.out.frozen 1
              have d2 := QA.out.cell 2
              have f2 := QA.out.frozen 2
              have d3 := QA.out.cell 3
              have f3 := QA.out.frozen 3
              have d4 := QA.out.cell 4
              have f4 := QA.out.frozen 4
              go_wp2_with fail
              have HB := Lib.hid (((((HB.out.setCell (p := ⟨gA, 0, none⟩) bA (.int .u32 7)).setCell (p := ⟨gA, 1, none⟩) bA (.int .u32 (offX l k : Int))).setCell (p := ⟨gA, 2, none⟩) bA (.int .u32 (k : Int))).setCell (p := ⟨gA, 3, none⟩) bA (.int .u64 (firstX l k : Int))).setCell (p := ⟨gA, 4, none⟩) bA (.int .u64 (seqL (l.take k) : Int)))
              have QB := Lib.hid (((((QB.out.far (p := ⟨gA, 0, none⟩) nAB.symm (.int .u32 7)).far (p := ⟨gA, 1, none⟩) nAB.symm (.int .u32 (offX l k : Int))).far (p := ⟨gA, 2, none⟩) nAB.symm (.int .u32 (k : Int))).far (p := ⟨gA, 3, none⟩) nAB.symm (.int .u64 (firstX l k : Int))).far (p := ⟨gA, 4, none⟩) nAB.symm (.int .u64 (seqL (l.take k) : Int)))
              have qA : Blk (World.setCell (World.setCell (World.setCell (World.setCell (World.setCell y14 ⟨gA, 0, none⟩ (.int .u32 7)) ⟨gA, 1, none⟩ (.int .u32 (offX l k : Int))) ⟨gA, 2, none⟩ (.int .u32 (k : Int))) ⟨gA, 3, none⟩ (.int .u64 (firstX l k : Int))) ⟨gA, 4, none⟩ (.int .u64 (seqL (l.take k) : Int))) gA _ #[.int .u32 7, .int .u32 (offX l k : Int), .int .u32 (k : Int), .int .u64 (firstX l k : Int), .int .u64 (seqL (l.take k) : Int)] := (blk_eq (((((QA.out.set_ 0 (.int .u32 7)).set_ 1 (.int .u32 (offX l k : Int))).set_ 2 (.int .u32 (k : Int))).set_ 3 (.int .u64 (firstX l k : Int))).set_ 4 (.int .u64 (seqL (l.take k) : Int))) rfl)
              have QA := Lib.hid qA
              clear qA d0 f0 d1 f1 d2 f2 d3 f3 d4 f4
              generalize (World.setCell (World.setCell (World.setCell (World.setCell (World.setCell y14 ⟨gA, 0, none⟩ (.int .u32 7)) ⟨gA, 1, none⟩ (.int .u32 (offX l k : Int))) ⟨gA, 2, none⟩ (.int .u32 (k : Int))) ⟨gA, 3, none⟩ (.int .u64 (firstX l k : Int))) ⟨gA, 4, none⟩ (.int .u64 (seqL (l.take k) : Int))) = y15 at *
              refine plan_last (by rfl) (by kernel_rfl) ?_
              have d0 := QB.out.cell 0
              have f0 := QB.out.frozen 0
              have d1 := QB.out.cell 1
              have f1 := QB.out.frozen 1
              have d2 := QB.out.cell 2
              have f2 := QB.out.frozen 2
              have d3 := QB.out.cell 3
              have f3 := QB.out.frozen 3
              have d4 := QB.out.cell 4
              have f4 := QB.out.frozen 4
              go_wp2_with fail
              have HB := Lib.hid (((((HB.out.setCell (p := ⟨gB, 0, none⟩) bB (.int .u32 7)).setCell (p := ⟨gB, 1, none⟩) bB (.int .u32 (offX l m : Int))).setCell (p := ⟨gB, 2, none⟩) bB (.int .u32 (m : Int))).setCell (p := ⟨gB, 3, none⟩) bB (.int .u64 (firstX l m : Int))).setCell (p := ⟨gB, 4, none⟩) bB (.int .u64 (seqL (l.take m) : Int)))
              have QA := Lib.hid (((((QA.out.far (p := ⟨gB, 0, none⟩) nAB (.int .u32 7)).far (p := ⟨gB, 1, none⟩) nAB (.int .u32 (offX l m : Int))).far (p := ⟨gB, 2, none⟩) nAB (.int .u32 (m : Int))).far (p := ⟨gB, 3, none⟩) nAB (.int .u64 (firstX l m : Int))).far (p := ⟨gB, 4, none⟩) nAB (.int .u64 (seqL (l.take m) : Int)))
              have qB : Blk (World.setCell (World.setCell (World.setCell (World.setCell (World.setCell y15 ⟨gB, 0, none⟩ (.int .u32 7)) ⟨gB, 1, none⟩ (.int .u32 (offX l m : Int))) ⟨gB, 2, none⟩ (.int .u32 (m : Int))) ⟨gB, 3, none⟩ (.int .u64 (firstX l m : Int))) ⟨gB, 4, none⟩ (.int .u64 (seqL (l.take m) : Int))) gB _ #[.int .u32 7, .int .u32 (offX l m : Int), .int .u32 (m : Int), .int .u64 (firstX l m : Int), .int .u64 (seqL (l.take m) : Int)] := (blk_eq (((((QB.out.set_ 0 (.int .u32 7)).set_ 1 (.int .u32 (offX l m : Int))).set_ 2 (.int .u32 (m : Int))).set_ 3 (.int .u64 (firstX l m : Int))).set_ 4 (.int .u64 (seqL (l.take m) : Int))) rfl)
              have QB := Lib.hid qB
              clear qB d0 f0 d1 f1 d2 f2 d3 f3 d4 f4
              generalize (World.setCell (World.setCell (World.setCell (World.setCell (World.setCell y15 ⟨gB, 0, none⟩ (.int .u32 7)) ⟨gB, 1, none⟩ (.int .u32 (offX l m : Int))) ⟨gB, 2, none⟩ (.int .u32 (m : Int))) ⟨gB, 3, none⟩ (.int .u64 (firstX l m : Int))) ⟨gB, 4, none⟩ (.int .u64 (seqL (l.take m) : Int))) = y16 at *
              refine plan_end ?_
              go_wp2_with fail
              go_meet
              case rel => exact ⟨gA, gB, rfl, rfl, QA.out, QB.out, HB.out⟩
            · skip
              go_wp2_with fail
              have lA := QA.out.lt
              have hBe := (Below.refl _ y12).alloc (Nat.le_refl _) (.cells #[.int .u32 0, .int .u32 0, .int .u32 0, .int .u64 0, .int .u64 0] 39)
              have qB := Blk.new y12 39 #[.int .u32 0, .int .u32 0, .int .u32 0, .int .u64 0, .int .u64 0]
              have hsz := HB.out.size
              obtain ⟨gB, hgB⟩ : ∃ g, g = y12.heap.size := ⟨_, rfl⟩
              rw [← hgB] at qB ⊢
              have bB : wr.heap.size ≤ gB := by omega
              have nAB : gA ≠ gB := by omega
              have HB := Lib.hid (belowGo HB.out hBe)
              have QA := Lib.hid (QA.out.after hBe)
              have QB := Lib.hid qB
              clear hgB hsz hBe qB lA
              generalize y12.alloc (.cells #[.int .u32 0, .int .u32 0, .int .u32 0, .int .u64 0, .int .u64 0] 39) = y17 at *
              refine ⟨HB.out, ?_⟩
              refine plan_act (by rfl) ?_
              go_wp2_with fail
              refine (Lib.hid (seal_segX (by omega) (by omega) hf (BY.out.after HB.out))).out.mono ?_
              rintro e y18 ⟨rfl, hBe⟩
              have HB := Lib.hid (belowGo HB.out hBe)
              have QA := Lib.hid (QA.out.after hBe)
              have QB := Lib.hid (QB.out.after hBe)
              clear hBe
              go_wp2_with fail
              refine ⟨HB.out, ?_⟩
              refine plan_last (by rfl) (by kernel_rfl) ?_
              have d0 := QA.out.cell 0
              have f0 := QA.out.frozen 0
              have d1 := QA.out.cell 1
              have f1 := QA.out.frozen 1
              have d2 := QA.out.cell 2
              have f2 := QA.out.frozen 2
              have d3 := QA.out.cell 3
              have f3 := QA.out.frozen 3
              have d4 := QA.out.cell 4
              have f4 := QA.out.frozen 4
              go_wp2_with fail
              have HB := Lib.hid (((((HB.out.setCell (p := ⟨gA, 0, none⟩) bA (.int .u32 7)).setCell (p := ⟨gA, 1, none⟩) bA (.int .u32 (offX l k : Int))).setCell (p := ⟨gA, 2, none⟩) bA (.int .u32 (k : Int))).setCell (p := ⟨gA, 3, none⟩) bA (.int .u64 (firstX l k : Int))).setCell (p := ⟨gA, 4, none⟩) bA (.int .u64 (seqL (l.take k) : Int)))
              have QB := Lib.hid (((((QB.out.far (p := ⟨gA, 0, none⟩) nAB.symm (.int .u32 7)).far (p := ⟨gA, 1, none⟩) nAB.symm (.int .u32 (offX l k : Int))).far (p := ⟨gA, 2, none⟩) nAB.symm (.int .u32 (k : Int))).far (p := ⟨gA, 3, none⟩) nAB.symm (.int .u64 (firstX l k : Int))).far (p := ⟨gA, 4, none⟩) nAB.symm (.int .u64 (seqL (l.take k) : Int)))
              have qA : Blk (World.setCell (World.setCell (World.setCell (World.setCell (World.setCell y18 ⟨gA, 0, none⟩ (.int .u32 7)) ⟨gA, 1, none⟩ (.int .u32 (offX l k : Int))) ⟨gA, 2, none⟩ (.int .u32 (k : Int))) ⟨gA, 3, none⟩ (.int .u64 (firstX l k : Int))) ⟨gA, 4, none⟩ (.int .u64 (seqL (l.take k) : Int))) gA _ #[.int .u32 7, .int .u32 (offX l k : Int), .int .u32 (k : Int), .int .u64 (firstX l k : Int), .int .u64 (seqL (l.take k) : Int)] := (blk_eq (((((QA.out.set_ 0 (.int .u32 7)).set_ 1 (.int .u32 (offX l k : Int))).set_ 2 (.int .u32 (k : Int))).set_ 3 (.int .u64 (firstX l k : Int))).set_ 4 (.int .u64 (seqL (l.take k) : Int))) rfl)
              have QA := Lib.hid qA
              clear qA d0 f0 d1 f1 d2 f2 d3 f3 d4 f4
              generalize (World.setCell (World.setCell (World.setCell (World.setCell (World.setCell y18 ⟨gA, 0, none⟩ (.int .u32 7)) ⟨gA, 1, none⟩ (.int .u32 (offX l k : Int))) ⟨gA, 2, none⟩ (.int .u32 (k : Int))) ⟨gA, 3, none⟩ (.int .u64 (firstX l k : Int))) ⟨gA, 4, none⟩ (.int .u64 (seqL (l.take k) : Int))) = y19 at *
              refine plan_last (by rfl) (by kernel_rfl) ?_
              have d0 := QB.out.cell 0
              have f0 := QB.out.frozen 0
              have d1 := QB.out.cell 1
              have f1 := QB.out.frozen 1
              have d2 := QB.out.cell 2
              have f2 := QB.out.frozen 2
              have d3 := QB.out.cell 3
              have f3 := QB.out.frozen 3
              have d4 := QB.out.cell 4
              have f4 := QB.out.frozen 4
              go_wp2_with fail
              have HB := Lib.hid (((((HB.out.setCell (p := ⟨gB, 0, none⟩) bB (.int .u32 7)).setCell (p := ⟨gB, 1, none⟩) bB (.int .u32 (offX l m : Int))).setCell (p := ⟨gB, 2, none⟩) bB (.int .u32 (m : Int))).setCell (p := ⟨gB, 3, none⟩) bB (.int .u64 (firstX l m : Int))).setCell (p := ⟨gB, 4, none⟩) bB (.int .u64 (seqL (l.take m) : Int)))
              have QA := Lib.hid (((((QA.out.far (p := ⟨gB, 0, none⟩) nAB (.int .u32 7)).far (p := ⟨gB, 1, none⟩) nAB (.int .u32 (offX l m : Int))).far (p := ⟨gB, 2, none⟩) nAB (.int .u32 (m : Int))).far (p := ⟨gB, 3, none⟩) nAB (.int .u64 (firstX l m : Int))).far (p := ⟨gB, 4, none⟩) nAB (.int .u64 (seqL (l.take m) : Int)))
              have qB : Blk (World.setCell (World.setCell (World.setCell (World.setCell (World.setCell y19 ⟨gB, 0, none⟩ (.int .u32 7)) ⟨gB, 1, none⟩ (.int .u32 (offX l m : Int))) ⟨gB, 2, none⟩ (.int .u32 (m : Int))) ⟨gB, 3, none⟩ (.int .u64 (firstX l m : Int))) ⟨gB, 4, none⟩ (.int .u64 (seqL (l.take m) : Int))) gB _ #[.int .u32 7, .int .u32 (offX l m : Int), .int .u32 (m : Int), .int .u64 (firstX l m : Int), .int .u64 (seqL (l.take m) : Int)] := (blk_eq (((((QB.out.set_ 0 (.int .u32 7)).set_ 1 (.int .u32 (offX l m : Int))).set_ 2 (.int .u32 (m : Int))).set_ 3 (.int .u64 (firstX l m : Int))).set_ 4 (.int .u64 (seqL (l.take m) : Int))) rfl)
              have QB := Lib.hid qB
              clear qB d0 f0 d1 f1 d2 f2 d3 f3 d4 f4
              generalize (World.setCell (World.setCell (World.setCell (World.setCell (World.setCell y19 ⟨gB, 0, none⟩ (.int .u32 7)) ⟨gB, 1, none⟩ (.int .u32 (offX l m : Int))) ⟨gB, 2, none⟩ (.int .u32 (m : Int))) ⟨gB, 3, none⟩ (.int .u64 (firstX l m : Int))) ⟨gB, 4, none⟩ (.int .u64 (seqL (l.take m) : Int))) = y20 at *
              refine plan_end ?_
              go_wp2_with fail
              go_meet
              case rel => exact ⟨gA, gB, rfl, rfl, QA.out, QB.out, HB.out⟩
          · skip
            go_wp2_with fail
            have hBe := (Below.refl _ y2).alloc (Nat.le_refl _) (.cells #[.int .u32 0, .int .u32 0, .int .u32 0, .int .u64 0, .int .u64 0] 39)
            have qB := Blk.new y2 39 #[.int .u32 0, .int .u32 0, .int .u32 0, .int .u64 0, .int .u64 0]
            have hsz := HB.out.size
            obtain ⟨gB, hgB⟩ : ∃ g, g = y2.heap.size := ⟨_, rfl⟩
            rw [← hgB] at qB ⊢
            have bB : wr.heap.size ≤ gB := by omega
            have HB := Lib.hid (belowGo HB.out hBe)
            have QB := Lib.hid qB
            clear hgB hsz hBe qB 
            generalize y2.alloc (.cells #[.int .u32 0, .int .u32 0, .int .u32 0, .int .u64 0, .int .u64 0] 39) = y21 at *
            refine ⟨HB.out, ?_⟩
            refine plan_fork (by rfl) (by rfl) ?_ ?_
            · skip
              go_wp2_with fail
              refine (Lib.hid (seal_segX (by omega) (by omega) hf (BY.out.after HB.out))).out.mono ?_
              rintro e y22 ⟨rfl, hBe⟩
              have HB := Lib.hid (belowGo HB.out hBe)
              have QB := Lib.hid (QB.out.after hBe)
              clear hBe
              go_wp2_with fail
              refine ⟨HB.out, ?_⟩
              refine plan_act (by rfl) ?_
              go_wp2_with fail
              have lB := QB.out.lt
              have hBe := (Below.refl _ y22).alloc (Nat.le_refl _) (.cells #[.int .u32 0, .int .u32 0, .int .u32 0, .int .u64 0, .int .u64 0] 39)
              have qA := Blk.new y22 39 #[.int .u32 0, .int .u32 0, .int .u32 0, .int .u64 0, .int .u64 0]
              have hsz := HB.out.size
              obtain ⟨gA, hgA⟩ : ∃ g, g = y22.heap.size := ⟨_, rfl⟩
              rw [← hgA] at qA ⊢
              have bA : wr.heap.size ≤ gA := by omega
              have nAB : gA ≠ gB := by omega
              have HB := Lib.hid (belowGo HB.out hBe)
              have QB := Lib.hid (QB.out.after hBe)
              have QA := Lib.hid qA
              clear hgA hsz hBe qA lB
              generalize y22.alloc (.cells #[.int .u32 0, .int .u32 0, .int .u32 0, .int .u64 0, .int .u64 0] 39) = y23 at *
              refine ⟨HB.out, ?_⟩
              refine plan_last (by rfl) (by kernel_rfl) ?_
              have d0 := QA.out.cell 0
              have f0 := QA.out.frozen 0
              have d1 := QA.out.cell 1
              have f1 := QA.out.frozen 1
              have d2 := QA.out.cell 2
              have f2 := QA.out.frozen 2
              have d3 := QA.out.cell 3
              have f3 := QA.out.frozen 3
              have d4 := QA.out.cell 4
              have f4 := QA.out.frozen 4
              go_wp2_with fail
              have HB := Lib.hid (((((HB.out.setCell (p := ⟨gA, 0, none⟩) bA (.int .u32 7)).setCell (p := ⟨gA, 1, none⟩) bA (.int .u32 (offX l k : Int))).setCell (p := ⟨gA, 2, none⟩) bA (.int .u32 (k : Int))).setCell (p := ⟨gA, 3, none⟩) bA (.int .u64 (firstX l k : Int))).setCell (p := ⟨gA, 4, none⟩) bA (.int .u64 (seqL (l.take k) : Int)))
              have QB := Lib.hid (((((QB.out.far (p := ⟨gA, 0, none⟩) nAB.symm (.int .u32 7)).far (p := ⟨gA, 1, none⟩) nAB.symm (.int .u32 (offX l k : Int))).far (p := ⟨gA, 2, none⟩) nAB.symm (.int .u32 (k : Int))).far (p := ⟨gA, 3, none⟩) nAB.symm (.int .u64 (firstX l k : Int))).far (p := ⟨gA, 4, none⟩) nAB.symm (.int .u64 (seqL (l.take k) : Int)))
              have qA : Blk (World.setCell (World.setCell (World.setCell (World.setCell (World.setCell y23 ⟨gA, 0, none⟩ (.int .u32 7)) ⟨gA, 1, none⟩ (.int .u32 (offX l k : Int))) ⟨gA, 2, none⟩ (.int .u32 (k : Int))) ⟨gA, 3, none⟩ (.int .u64 (firstX l k : Int))) ⟨gA, 4, none⟩ (.int .u64 (seqL (l.take k) : Int))) gA _ #[.int .u32 7, .int .u32 (offX l k : Int), .int .u32 (k : Int), .int .u64 (firstX l k : Int), .int .u64 (seqL (l.take k) : Int)] := (blk_eq (((((QA.out.set_ 0 (.int .u32 7)).set_ 1 (.int .u32 (offX l k : Int))).set_ 2 (.int .u32 (k : Int))).set_ 3 (.int .u64 (firstX l k : Int))).set_ 4 (.int .u64 (seqL (l.take k) : Int))) rfl)
              have QA := Lib.hid qA
              clear qA d0 f0 d1 f1 d2 f2 d3 f3 d4 f4
              generalize (World.setCell (World.setCell (World.setCell (World.setCell (World.setCell y23 ⟨gA, 0, none⟩ (.int .u32 7)) ⟨gA, 1, none⟩ (.int .u32 (offX l k : Int))) ⟨gA, 2, none⟩ (.int .u32 (k : Int))) ⟨gA, 3, none⟩ (.int .u64 (firstX l k : Int))) ⟨gA, 4, none⟩ (.int .u64 (seqL (l.take k) : Int))) = y24 at *
              refine plan_last (by rfl) (by kernel_rfl) ?_
              have d0 := QB.out.cell 0
              have f0 := QB.out.frozen 0
              have d1 := QB.out.cell 1
              have f1 := QB.out.frozen 1
              have d2 := QB.out.cell 2
              have f2 := QB.out.frozen 2
              have d3 := QB.out.cell 3
              have f3 := QB.out.frozen 3
              have d4 := QB.out.cell 4
              have f4 := QB.out.frozen 4
              go_wp2_with fail
              have HB := Lib.hid (((((HB.out.setCell (p := ⟨gB, 0, none⟩) bB (.int .u32 7)).setCell (p := ⟨gB, 1, none⟩) bB (.int .u32 (offX l m : Int))).setCell (p := ⟨gB, 2, none⟩) bB (.int .u32 (m : Int))).setCell (p := ⟨gB, 3, none⟩) bB (.int .u64 (firstX l m : Int))).setCell (p := ⟨gB, 4, none⟩) bB (.int .u64 (seqL (l.take m) : Int)))
              have QA := Lib.hid (((((QA.out.far (p := ⟨gB, 0, none⟩) nAB (.int .u32 7)).far (p := ⟨gB, 1, none⟩) nAB (.int .u32 (offX l m : Int))).far (p := ⟨gB, 2, none⟩) nAB (.int .u32 (m : Int))).far (p := ⟨gB, 3, none⟩) nAB (.int .u64 (firstX l m : Int))).far (p := ⟨gB, 4, none⟩) nAB (.int .u64 (seqL (l.take m) : Int)))
              have qB : Blk (World.setCell (World.setCell (World.setCell (World.setCell (World.setCell y24 ⟨gB, 0, none⟩ (.int .u32 7)) ⟨gB, 1, none⟩ (.int .u32 (offX l m : Int))) ⟨gB, 2, none⟩ (.int .u32 (m : Int))) ⟨gB, 3, none⟩ (.int .u64 (firstX l m : Int))) ⟨gB, 4, none⟩ (.int .u64 (seqL (l.take m) : Int))) gB _ #[.int .u32 7, .int .u32 (offX l m : Int), .int .u32 (m : Int), .int .u64 (firstX l m : Int), .int .u64 (seqL (l.take m) : Int)] := (blk_eq (((((QB.out.set_ 0 (.int .u32 7)).set_ 1 (.int .u32 (offX l m : Int))).set_ 2 (.int .u32 (m : Int))).set_ 3 (.int .u64 (firstX l m : Int))).set_ 4 (.int .u64 (seqL (l.take m) : Int))) rfl)
              have QB := Lib.hid qB
              clear qB d0 f0 d1 f1 d2 f2 d3 f3 d4 f4
              generalize (World.setCell (World.setCell (World.setCell (World.setCell (World.setCell y24 ⟨gB, 0, none⟩ (.int .u32 7)) ⟨gB, 1, none⟩ (.int .u32 (offX l m : Int))) ⟨gB, 2, none⟩ (.int .u32 (m : Int))) ⟨gB, 3, none⟩ (.int .u64 (firstX l m : Int))) ⟨gB, 4, none⟩ (.int .u64 (seqL (l.take m) : Int))) = y25 at *
              refine plan_end ?_
              go_wp2_with fail
              go_meet
              case rel => exact ⟨gA, gB, rfl, rfl, QA.out, QB.out, HB.out⟩
            · skip
              go_wp2_with fail
              have lB := QB.out.lt
              have hBe := (Below.refl _ y21).alloc (Nat.le_refl _) (.cells #[.int .u32 0, .int .u32 0, .int .u32 0, .int .u64 0, .int .u64 0] 39)
              have qA := Blk.new y21 39 #[.int .u32 0, .int .u32 0, .int .u32 0, .int .u64 0, .int .u64 0]
              have hsz := HB.out.size
              obtain ⟨gA, hgA⟩ : ∃ g, g = y21.heap.size := ⟨_, rfl⟩
              rw [← hgA] at qA ⊢
              have bA : wr.heap.size ≤ gA := by omega
              have nAB : gA ≠ gB := by omega
              have HB := Lib.hid (belowGo HB.out hBe)
              have QB := Lib.hid (QB.out.after hBe)
              have QA := Lib.hid qA
              clear hgA hsz hBe qA lB
              generalize y21.alloc (.cells #[.int .u32 0, .int .u32 0, .int .u32 0, .int .u64 0, .int .u64 0] 39) = y26 at *
              refine ⟨HB.out, ?_⟩
              refine plan_act (by rfl) ?_
              go_wp2_with fail
              refine (Lib.hid (seal_segX (by omega) (by omega) hf (BY.out.after HB.out))).out.mono ?_
              rintro e y27 ⟨rfl, hBe⟩
              have HB := Lib.hid (belowGo HB.out hBe)
              have QB := Lib.hid (QB.out.after hBe)
              have QA := Lib.hid (QA.out.after hBe)
              clear hBe
              go_wp2_with fail
              refine ⟨HB.out, ?_⟩
              refine plan_last (by rfl) (by kernel_rfl) ?_
              have d0 := QA.out.cell 0
              have f0 := QA.out.frozen 0
              have d1 := QA.out.cell 1
              have f1 := QA.out.frozen 1
              have d2 := QA.out.cell 2
              have f2 := QA.out.frozen 2
              have d3 := QA.out.cell 3
              have f3 := QA.out.frozen 3
              have d4 := QA.out.cell 4
              have f4 := QA.out.frozen 4
              go_wp2_with fail
              have HB := Lib.hid (((((HB.out.setCell (p := ⟨gA, 0, none⟩) bA (.int .u32 7)).setCell (p := ⟨gA, 1, none⟩) bA (.int .u32 (offX l k : Int))).setCell (p := ⟨gA, 2, none⟩) bA (.int .u32 (k : Int))).setCell (p := ⟨gA, 3, none⟩) bA (.int .u64 (firstX l k : Int))).setCell (p := ⟨gA, 4, none⟩) bA (.int .u64 (seqL (l.take k) : Int)))
              have QB := Lib.hid (((((QB.out.far (p := ⟨gA, 0, none⟩) nAB.symm (.int .u32 7)).far (p := ⟨gA, 1, none⟩) nAB.symm (.int .u32 (offX l k : Int))).far (p := ⟨gA, 2, none⟩) nAB.symm (.int .u32 (k : Int))).far (p := ⟨gA, 3, none⟩) nAB.symm (.int .u64 (firstX l k : Int))).far (p := ⟨gA, 4, none⟩) nAB.symm (.int .u64 (seqL (l.take k) : Int)))
              have qA : Blk (World.setCell (World.setCell (World.setCell (World.setCell (World.setCell y27 ⟨gA, 0, none⟩ (.int .u32 7)) ⟨gA, 1, none⟩ (.int .u32 (offX l k : Int))) ⟨gA, 2, none⟩ (.int .u32 (k : Int))) ⟨gA, 3, none⟩ (.int .u64 (firstX l k : Int))) ⟨gA, 4, none⟩ (.int .u64 (seqL (l.take k) : Int))) gA _ #[.int .u32 7, .int .u32 (offX l k : Int), .int .u32 (k : Int), .int .u64 (firstX l k : Int), .int .u64 (seqL (l.take k) : Int)] := (blk_eq (((((QA.out.set_ 0 (.int .u32 7)).set_ 1 (.int .u32 (offX l k : Int))).set_ 2 (.int .u32 (k : Int))).set_ 3 (.int .u64 (firstX l k : Int))).set_ 4 (.int .u64 (seqL (l.take k) : Int))) rfl)
              have QA := Lib.hid qA
              clear qA d0 f0 d1 f1 d2 f2 d3 f3 d4 f4
              generalize (World.setCell (World.setCell (World.setCell (World.setCell (World.setCell y27 ⟨gA, 0, none⟩ (.int .u32 7)) ⟨gA, 1, none⟩ (.int .u32 (offX l k : Int))) ⟨gA, 2, none⟩ (.int .u32 (k : Int))) ⟨gA, 3, none⟩ (.int .u64 (firstX l k : Int))) ⟨gA, 4, none⟩ (.int .u64 (seqL (l.take k) : Int))) = y28 at *
              refine plan_last (by rfl) (by kernel_rfl) ?_
              have d0 := QB.out.cell 0
              have f0 := QB.out.frozen 0
              have d1 := QB.out.cell 1
              have f1 := QB.out.frozen 1
              have d2 := QB.out.cell 2
              have f2 := QB.out.frozen 2
              have d3 := QB.out.cell 3
              have f3 := QB.out.frozen 3
              have d4 := QB.out.cell 4
              have f4 := QB.out.frozen 4
              go_wp2_with fail
              have HB := Lib.hid (((((HB.out.setCell (p := ⟨gB, 0, none⟩) bB (.int .u32 7)).setCell (p := ⟨gB, 1, none⟩) bB (.int .u32 (offX l m : Int))).setCell (p := ⟨gB, 2, none⟩) bB (.int .u32 (m : Int))).setCell (p := ⟨gB, 3, none⟩) bB (.int .u64 (firstX l m : Int))).setCell (p := ⟨gB, 4, none⟩) bB (.int .u64 (seqL (l.take m) : Int)))
              have QA := Lib.hid (((((QA.out.far (p := ⟨gB, 0, none⟩) nAB (.int .u32 7)).far (p := ⟨gB, 1, none⟩) nAB (.int .u32 (offX l m : Int))).far (p := ⟨gB, 2, none⟩) nAB (.int .u32 (m : Int))).far (p := ⟨gB, 3, none⟩) nAB (.int .u64 (firstX l m : Int))).far (p := ⟨gB, 4, none⟩) nAB (.int .u64 (seqL (l.take m) : Int)))
              have qB : Blk (World.setCell (World.setCell (World.setCell (World.setCell (World.setCell y28 ⟨gB, 0, none⟩ (.int .u32 7)) ⟨gB, 1, none⟩ (.int .u32 (offX l m : Int))) ⟨gB, 2, none⟩ (.int .u32 (m : Int))) ⟨gB, 3, none⟩ (.int .u64 (firstX l m : Int))) ⟨gB, 4, none⟩ (.int .u64 (seqL (l.take m) : Int))) gB _ #[.int .u32 7, .int .u32 (offX l m : Int), .int .u32 (m : Int), .int .u64 (firstX l m : Int), .int .u64 (seqL (l.take m) : Int)] := (blk_eq (((((QB.out.set_ 0 (.int .u32 7)).set_ 1 (.int .u32 (offX l m : Int))).set_ 2 (.int .u32 (m : Int))).set_ 3 (.int .u64 (firstX l m : Int))).set_ 4 (.int .u64 (seqL (l.take m) : Int))) rfl)
              have QB := Lib.hid qB
              clear qB d0 f0 d1 f1 d2 f2 d3 f3 d4 f4
              generalize (World.setCell (World.setCell (World.setCell (World.setCell (World.setCell y28 ⟨gB, 0, none⟩ (.int .u32 7)) ⟨gB, 1, none⟩ (.int .u32 (offX l m : Int))) ⟨gB, 2, none⟩ (.int .u32 (m : Int))) ⟨gB, 3, none⟩ (.int .u64 (firstX l m : Int))) ⟨gB, 4, none⟩ (.int .u64 (seqL (l.take m) : Int))) = y29 at *
              refine plan_end ?_
              go_wp2_with fail
              go_meet
              case rel => exact ⟨gA, gB, rfl, rfl, QA.out, QB.out, HB.out⟩
        · skip
          go_wp2_with fail
          have hBe := (Below.refl _ wd).alloc (Nat.le_refl _) (.cells #[.int .u32 0, .int .u32 0, .int .u32 0, .int .u64 0, .int .u64 0] 39)
          have qA := Blk.new wd 39 #[.int .u32 0, .int .u32 0, .int .u32 0, .int .u64 0, .int .u64 0]
          have hsz := HB.out.size
          obtain ⟨gA, hgA⟩ : ∃ g, g = wd.heap.size := ⟨_, rfl⟩
          rw [← hgA] at qA ⊢
          have bA : wr.heap.size ≤ gA := by omega
          have HB := Lib.hid (belowGo HB.out hBe)
          have QA := Lib.hid qA
          clear hgA hsz hBe qA 
          generalize wd.alloc (.cells #[.int .u32 0, .int .u32 0, .int .u32 0, .int .u64 0, .int .u64 0] 39) = y30 at *
          refine ⟨HB.out, ?_⟩
          refine plan_fork (by rfl) (by rfl) ?_ ?_
          · skip
            go_wp2_with fail
            refine (Lib.hid (seal_segX (by omega) (by omega) hf (BX.out.after HB.out))).out.mono ?_
            rintro e y31 ⟨rfl, hBe⟩
            have HB := Lib.hid (belowGo HB.out hBe)
            have QA := Lib.hid (QA.out.after hBe)
            clear hBe
            go_wp2_with fail
            refine ⟨HB.out, ?_⟩
            refine plan_fork (by rfl) (by rfl) ?_ ?_
            · skip
              go_wp2_with fail
              refine (Lib.hid (seal_segX (by omega) (by omega) hf (BY.out.after HB.out))).out.mono ?_
              rintro e y32 ⟨rfl, hBe⟩
              have HB := Lib.hid (belowGo HB.out hBe)
              have QA := Lib.hid (QA.out.after hBe)
              clear hBe
              go_wp2_with fail
              refine ⟨HB.out, ?_⟩
              refine plan_act (by rfl) ?_
              go_wp2_with fail
              have lA := QA.out.lt
              have hBe := (Below.refl _ y32).alloc (Nat.le_refl _) (.cells #[.int .u32 0, .int .u32 0, .int .u32 0, .int .u64 0, .int .u64 0] 39)
              have qB := Blk.new y32 39 #[.int .u32 0, .int .u32 0, .int .u32 0, .int .u64 0, .int .u64 0]
              have hsz := HB.out.size
              obtain ⟨gB, hgB⟩ : ∃ g, g = y32.heap.size := ⟨_, rfl⟩
              rw [← hgB] at qB ⊢
              have bB : wr.heap.size ≤ gB := by omega
              have nAB : gA ≠ gB := by omega
              have HB := Lib.hid (belowGo HB.out hBe)
              have QA := Lib.hid (QA.out.after hBe)
              have QB := Lib.hid qB
              clear hgB hsz hBe qB lA
              generalize y32.alloc (.cells #[.int .u32 0, .int .u32 0, .int .u32 0, .int .u64 0, .int .u64 0] 39) = y33 at *
              refine ⟨HB.out, ?_⟩
              refine plan_last (by rfl) (by kernel_rfl) ?_
              have d0 := QA.out.cell 0
              have f0 := QA.out.frozen 0
              have d1 := QA.out.cell 1
              have f1 := QA.out.frozen 1
              have d2 := QA.out.cell 2
              have f2 := QA.out.frozen 2
              have d3 := QA.out.cell 3
              have f3 := QA.out.frozen 3
              have d4 := QA.out.cell 4
              have f4 := QA.out.frozen 4
              go_wp2_with fail
              have HB := Lib.hid (((((HB.out.setCell (p := ⟨gA, 0, none⟩) bA (.int .u32 7)).setCell (p := ⟨gA, 1, none⟩) bA (.int .u32 (offX l k : Int))).setCell (p := ⟨gA, 2, none⟩) bA (.int .u32 (k : Int))).setCell (p := ⟨gA, 3, none⟩) bA (.int .u64 (firstX l k : Int))).setCell (p := ⟨gA, 4, none⟩) bA (.int .u64 (seqL (l.take k) : Int)))
              have QB := Lib.hid (((((QB.out.far (p := ⟨gA, 0, none⟩) nAB.symm (.int .u32 7)).far (p := ⟨gA, 1, none⟩) nAB.symm (.int .u32 (offX l k : Int))).far (p := ⟨gA, 2, none⟩) nAB.symm (.int .u32 (k : Int))).far (p := ⟨gA, 3, none⟩) nAB.symm (.int .u64 (firstX l k : Int))).far (p := ⟨gA, 4, none⟩) nAB.symm (.int .u64 (seqL (l.take k) : Int)))
              have qA : Blk (World.setCell (World.setCell (World.setCell (World.setCell (World.setCell y33 ⟨gA, 0, none⟩ (.int .u32 7)) ⟨gA, 1, none⟩ (.int .u32 (offX l k : Int))) ⟨gA, 2, none⟩ (.int .u32 (k : Int))) ⟨gA, 3, none⟩ (.int .u64 (firstX l k : Int))) ⟨gA, 4, none⟩ (.int .u64 (seqL (l.take k) : Int))) gA _ #[.int .u32 7, .int .u32 (offX l k : Int), .int .u32 (k : Int), .int .u64 (firstX l k : Int), .int .u64 (seqL (l.take k) : Int)] := (blk_eq (((((QA.out.set_ 0 (.int .u32 7)).set_ 1 (.int .u32 (offX l k : Int))).set_ 2 (.int .u32 (k : Int))).set_ 3 (.int .u64 (firstX l k : Int))).set_ 4 (.int .u64 (seqL (l.take k) : Int))) rfl)
              have QA := Lib.hid qA
              clear qA d0 f0 d1 f1 d2 f2 d3 f3 d4 f4
              generalize (World.setCell (World.setCell (World.setCell (World.setCell (World.setCell y33 ⟨gA, 0, none⟩ (.int .u32 7)) ⟨gA, 1, none⟩ (.int .u32 (offX l k : Int))) ⟨gA, 2, none⟩ (.int .u32 (k : Int))) ⟨gA, 3, none⟩ (.int .u64 (firstX l k : Int))) ⟨gA, 4, none⟩ (.int .u64 (seqL (l.take k) : Int))) = y34 at *
              refine plan_last (by rfl) (by kernel_rfl) ?_
              have d0 := QB.out.cell 0
              have f0 := QB.out.frozen 0
              have d1 := QB.out.cell 1
              have f1 := QB.out.frozen 1
              have d2 := QB.out.cell 2
              have f2 := QB.out.frozen 2
              have d3 := QB.out.cell 3
              have f3 := QB.out.frozen 3
              have d4 := QB.out.cell 4
              have f4 := QB.out.frozen 4
              go_wp2_with fail
              have HB := Lib.hid (((((HB.out.setCell (p := ⟨gB, 0, none⟩) bB (.int .u32 7)).setCell (p := ⟨gB, 1, none⟩) bB (.int .u32 (offX l m : Int))).setCell (p := ⟨gB, 2, none⟩) bB (.int .u32 (m : Int))).setCell (p := ⟨gB, 3, none⟩) bB (.int .u64 (firstX l m : Int))).setCell (p := ⟨gB, 4, none⟩) bB (.int .u64 (seqL (l.take m) : Int)))
              have QA := Lib.hid (((((QA.out.far (p := ⟨gB, 0, none⟩) nAB (.int .u32 7)).far (p := ⟨gB, 1, none⟩) nAB (.int .u32 (offX l m : Int))).far (p := ⟨gB, 2, none⟩) nAB (.int .u32 (m : Int))).far (p := ⟨gB, 3, none⟩) nAB (.int .u64 (firstX l m : Int))).far (p := ⟨gB, 4, none⟩) nAB (.int .u64 (seqL (l.take m) : Int)))
              have qB : Blk (World.setCell (World.setCell (World.setCell (World.setCell (World.setCell y34 ⟨gB, 0, none⟩ (.int .u32 7)) ⟨gB, 1, none⟩ (.int .u32 (offX l m : Int))) ⟨gB, 2, none⟩ (.int .u32 (m : Int))) ⟨gB, 3, none⟩ (.int .u64 (firstX l m : Int))) ⟨gB, 4, none⟩ (.int .u64 (seqL (l.take m) : Int))) gB _ #[.int .u32 7, .int .u32 (offX l m : Int), .int .u32 (m : Int), .int .u64 (firstX l m : Int), .int .u64 (seqL (l.take m) : Int)] := (blk_eq (((((QB.out.set_ 0 (.int .u32 7)).set_ 1 (.int .u32 (offX l m : Int))).set_ 2 (.int .u32 (m : Int))).set_ 3 (.int .u64 (firstX l m : Int))).set_ 4 (.int .u64 (seqL (l.take m) : Int))) rfl)
              have QB := Lib.hid qB
              clear qB d0 f0 d1 f1 d2 f2 d3 f3 d4 f4
              generalize (World.setCell (World.setCell (World.setCell (World.setCell (World.setCell y34 ⟨gB, 0, none⟩ (.int .u32 7)) ⟨gB, 1, none⟩ (.int .u32 (offX l m : Int))) ⟨gB, 2, none⟩ (.int .u32 (m : Int))) ⟨gB, 3, none⟩ (.int .u64 (firstX l m : Int))) ⟨gB, 4, none⟩ (.int .u64 (seqL (l.take m) : Int))) = y35 at *
              refine plan_end ?_
              go_wp2_with fail
              go_meet
              case rel => exact ⟨gA, gB, rfl, rfl, QA.out, QB.out, HB.out⟩
            · skip
              go_wp2_with fail
              have lA := QA.out.lt
              have hBe := (Below.refl _ y31).alloc (Nat.le_refl _) (.cells #[.int .u32 0, .int .u32 0, .int .u32 0, .int .u64 0, .int .u64 0] 39)
              have qB := Blk.new y31 39 #[.int .u32 0, .int .u32 0, .int .u32 0, .int .u64 0, .int .u64 0]
              have hsz := HB.out.size
              obtain ⟨gB, hgB⟩ : ∃ g, g = y31.heap.size := ⟨_, rfl⟩
              rw [← hgB] at qB ⊢
              have bB : wr.heap.size ≤ gB := by omega
              have nAB : gA ≠ gB := by omega
              have HB := Lib.hid (belowGo HB.out hBe)
              have QA := Lib.hid (QA.out.after hBe)
              have QB := Lib.hid qB
              clear hgB hsz hBe qB lA
              generalize y31.alloc (.cells #[.int .u32 0, .int .u32 0, .int .u32 0, .int .u64 0, .int .u64 0] 39) = y36 at *
              refine ⟨HB.out, ?_⟩
              refine plan_act (by rfl) ?_
              go_wp2_with fail
              refine (Lib.hid (seal_segX (by omega) (by omega) hf (BY.out.after HB.out))).out.mono ?_
              rintro e y37 ⟨rfl, hBe⟩
              have HB := Lib.hid (belowGo HB.out hBe)
              have QA := Lib.hid (QA.out.after hBe)
              have QB := Lib.hid (QB.out.after hBe)
              clear hBe
              go_wp2_with fail
              refine ⟨HB.out, ?_⟩
              refine plan_last (by rfl) (by kernel_rfl) ?_
              have d0 := QA.out.cell 0
              have f0 := QA.out.frozen 0
              have d1 := QA.out.cell 1
              have f1 := QA.out.frozen 1
              have d2 := QA.out.cell 2
              have f2 := QA.out.frozen 2
              have d3 := QA.out.cell 3
              have f3 := QA.out.frozen 3
              have d4 := QA.out.cell 4
              have f4 := QA.out.frozen 4
              go_wp2_with fail
              have HB := Lib.hid (((((HB.out.setCell (p := ⟨gA, 0, none⟩) bA (.int .u32 7)).setCell (p := ⟨gA, 1, none⟩) bA (.int .u32 (offX l k : Int))).setCell (p := ⟨gA, 2, none⟩) bA (.int .u32 (k : Int))).setCell (p := ⟨gA, 3, none⟩) bA (.int .u64 (firstX l k : Int))).setCell (p := ⟨gA, 4, none⟩) bA (.int .u64 (seqL (l.take k) : Int)))
              have QB := Lib.hid (((((QB.out.far (p := ⟨gA, 0, none⟩) nAB.symm (.int .u32 7)).far (p := ⟨gA, 1, none⟩) nAB.symm (.int .u32 (offX l k : Int))).far (p := ⟨gA, 2, none⟩) nAB.symm (.int .u32 (k : Int))).far (p := ⟨gA, 3, none⟩) nAB.symm (.int .u64 (firstX l k : Int))).far (p := ⟨gA, 4, none⟩) nAB.symm (.int .u64 (seqL (l.take k) : Int)))
              have qA : Blk (World.setCell (World.setCell (World.setCell (World.setCell (World.setCell y37 ⟨gA, 0, none⟩ (.int .u32 7)) ⟨gA, 1, none⟩ (.int .u32 (offX l k : Int))) ⟨gA, 2, none⟩ (.int .u32 (k : Int))) ⟨gA, 3, none⟩ (.int .u64 (firstX l k : Int))) ⟨gA, 4, none⟩ (.int .u64 (seqL (l.take k) : Int))) gA _ #[.int .u32 7, .int .u32 (offX l k : Int), .int .u32 (k : Int), .int .u64 (firstX l k : Int), .int .u64 (seqL (l.take k) : Int)] := (blk_eq (((((QA.out.set_ 0 (.int .u32 7)).set_ 1 (.int .u32 (offX l k : Int))).set_ 2 (.int .u32 (k : Int))).set_ 3 (.int .u64 (firstX l k : Int))).set_ 4 (.int .u64 (seqL (l.take k) : Int))) rfl)
              have QA := Lib.hid qA
              clear qA d0 f0 d1 f1 d2 f2 d3 f3 d4 f4
              generalize (World.setCell (World.setCell (World.setCell (World.setCell (World.setCell y37 ⟨gA, 0, none⟩ (.int .u32 7)) ⟨gA, 1, none⟩ (.int .u32 (offX l k : Int))) ⟨gA, 2, none⟩ (.int .u32 (k : Int))) ⟨gA, 3, none⟩ (.int .u64 (firstX l k : Int))) ⟨gA, 4, none⟩ (.int .u64 (seqL (l.take k) : Int))) = y38 at *
              refine plan_last (by rfl) (by kernel_rfl) ?_
              have d0 := QB.out.cell 0
              have f0 := QB.out.frozen 0
              have d1 := QB.out.cell 1
              have f1 := QB.out.frozen 1
              have d2 := QB.out.cell 2
              have f2 := QB.out.frozen 2
              have d3 := QB.out.cell 3
              have f3 := QB.out.frozen 3
              have d4 := QB.out.cell 4
              have f4 := QB.out.frozen 4
              go_wp2_with fail
              have HB := Lib.hid (((((HB.out.setCell (p := ⟨gB, 0, none⟩) bB (.int .u32 7)).setCell (p := ⟨gB, 1, none⟩) bB (.int .u32 (offX l m : Int))).setCell (p := ⟨gB, 2, none⟩) bB (.int .u32 (m : Int))).setCell (p := ⟨gB, 3, none⟩) bB (.int .u64 (firstX l m : Int))).setCell (p := ⟨gB, 4, none⟩) bB (.int .u64 (seqL (l.take m) : Int)))
              have QA := Lib.hid (((((QA.out.far (p := ⟨gB, 0, none⟩) nAB (.int .u32 7)).far (p := ⟨gB, 1, none⟩) nAB (.int .u32 (offX l m : Int))).far (p := ⟨gB, 2, none⟩) nAB (.int .u32 (m : Int))).far (p := ⟨gB, 3, none⟩) nAB (.int .u64 (firstX l m : Int))).far (p := ⟨gB, 4, none⟩) nAB (.int .u64 (seqL (l.take m) : Int)))
              have qB : Blk (World.setCell (World.setCell (World.setCell (World.setCell (World.setCell y38 ⟨gB, 0, none⟩ (.int .u32 7)) ⟨gB, 1, none⟩ (.int .u32 (offX l m : Int))) ⟨gB, 2, none⟩ (.int .u32 (m : Int))) ⟨gB, 3, none⟩ (.int .u64 (firstX l m : Int))) ⟨gB, 4, none⟩ (.int .u64 (seqL (l.take m) : Int))) gB _ #[.int .u32 7, .int .u32 (offX l m : Int), .int .u32 (m : Int), .int .u64 (firstX l m : Int), .int .u64 (seqL (l.take m) : Int)] := (blk_eq (((((QB.out.set_ 0 (.int .u32 7)).set_ 1 (.int .u32 (offX l m : Int))).set_ 2 (.int .u32 (m : Int))).set_ 3 (.int .u64 (firstX l m : Int))).set_ 4 (.int .u64 (seqL (l.take m) : Int))) rfl)
              have QB := Lib.hid qB
              clear qB d0 f0 d1 f1 d2 f2 d3 f3 d4 f4
              generalize (World.setCell (World.setCell (World.setCell (World.setCell (World.setCell y38 ⟨gB, 0, none⟩ (.int .u32 7)) ⟨gB, 1, none⟩ (.int .u32 (offX l m : Int))) ⟨gB, 2, none⟩ (.int .u32 (m : Int))) ⟨gB, 3, none⟩ (.int .u64 (firstX l m : Int))) ⟨gB, 4, none⟩ (.int .u64 (seqL (l.take m) : Int))) = y39 at *
              refine plan_end ?_
              go_wp2_with fail
              go_meet
              case rel => exact ⟨gA, gB, rfl, rfl, QA.out, QB.out, HB.out⟩
          · skip
            go_wp2_with fail
            have lA := QA.out.lt
            have hBe := (Below.refl _ y30).alloc (Nat.le_refl _) (.cells #[.int .u32 0, .int .u32 0, .int .u32 0, .int .u64 0, .int .u64 0] 39)
            have qB := Blk.new y30 39 #[.int .u32 0, .int .u32 0, .int .u32 0, .int .u64 0, .int .u64 0]
            have hsz := HB.out.size
            obtain ⟨gB, hgB⟩ : ∃ g, g = y30.heap.size := ⟨_, rfl⟩
            rw [← hgB] at qB ⊢
            have bB : wr.heap.size ≤ gB := by omega
            have nAB : gA ≠ gB := by omega
            have HB := Lib.hid (belowGo HB.out hBe)
            have QA := Lib.hid (QA.out.after hBe)
            have QB := Lib.hid qB
            clear hgB hsz hBe qB lA
            generalize y30.alloc (.cells #[.int .u32 0, .int .u32 0, .int .u32 0, .int .u64 0, .int .u64 0] 39) = y40 at *
            refine ⟨HB.out, ?_⟩
            refine plan_act (by rfl) ?_
            go_wp2_with fail
            refine (Lib.hid (seal_segX (by omega) (by omega) hf (BX.out.after HB.out))).out.mono ?_
            rintro e y41 ⟨rfl, hBe⟩
            have HB := Lib.hid (belowGo HB.out hBe)
            have QA := Lib.hid (QA.out.after hBe)
            have QB := Lib.hid (QB.out.after hBe)
            clear hBe
            go_wp2_with fail
            refine ⟨HB.out, ?_⟩
            refine plan_act (by rfl) ?_
            go_wp2_with fail
            refine (Lib.hid (seal_segX (by omega) (by omega) hf (BY.out.after HB.out))).out.mono ?_
            rintro e y42 ⟨rfl, hBe⟩
            have HB := Lib.hid (belowGo HB.out hBe)
            have QA := Lib.hid (QA.out.after hBe)
            have QB := Lib.hid (QB.out.after hBe)
            clear hBe
            go_wp2_with fail
            refine ⟨HB.out, ?_⟩
            refine plan_last (by rfl) (by kernel_rfl) ?_
            have d0 := QA.out.cell 0
            have f0 := QA.out.frozen 0
            have d1 := QA.out.cell 1
            have f1 := QA.out.frozen 1
            have d2 := QA.out.cell 2
            have f2 := QA.out.frozen 2
            have d3 := QA.out.cell 3
            have f3 := QA.out.frozen 3
            have d4 := QA.out.cell 4
            have f4 := QA.out.frozen 4
            go_wp2_with fail
            have HB := Lib.hid (((((HB.out.setCell (p := ⟨gA, 0, none⟩) bA (.int .u32 7)).setCell (p := ⟨gA, 1, none⟩) bA (.int .u32 (offX l k : Int))).setCell (p := ⟨gA, 2, none⟩) bA (.int .u32 (k : Int))).setCell (p := ⟨gA, 3, none⟩) bA (.int .u64 (firstX l k : Int))).setCell (p := ⟨gA, 4, none⟩) bA (.int .u64 (seqL (l.take k) : Int)))
            have QB := Lib.hid (((((QB.out.far (p := ⟨gA, 0, none⟩) nAB.symm (.int .u32 7)).far (p := ⟨gA, 1, none⟩) nAB.symm (.int .u32 (offX l k : Int))).far (p := ⟨gA, 2, none⟩) nAB.symm (.int .u32 (k : Int))).far (p := ⟨gA, 3, none⟩) nAB.symm (.int .u64 (firstX l k : Int))).far (p := ⟨gA, 4, none⟩) nAB.symm (.int .u64 (seqL (l.take k) : Int)))
            have qA : Blk (World.setCell (World.setCell (World.setCell (World.setCell (World.setCell y42 ⟨gA, 0, none⟩ (.int .u32 7)) ⟨gA, 1, none⟩ (.int .u32 (offX l k : Int))) ⟨gA, 2, none⟩ (.int .u32 (k : Int))) ⟨gA, 3, none⟩ (.int .u64 (firstX l k : Int))) ⟨gA, 4, none⟩ (.int .u64 (seqL (l.take k) : Int))) gA _ #[.int .u32 7, .int .u32 (offX l k : Int), .int .u32 (k : Int), .int .u64 (firstX l k : Int), .int .u64 (seqL (l.take k) : Int)] := (blk_eq (((((QA.out.set_ 0 (.int .u32 7)).set_ 1 (.int .u32 (offX l k : Int))).set_ 2 (.int .u32 (k : Int))).set_ 3 (.int .u64 (firstX l k : Int))).set_ 4 (.int .u64 (seqL (l.take k) : Int))) rfl)
            have QA := Lib.hid qA
            clear qA d0 f0 d1 f1 d2 f2 d3 f3 d4 f4
            generalize (World.setCell (World.setCell (World.setCell (World.setCell (World.setCell y42 ⟨gA, 0, none⟩ (.int .u32 7)) ⟨gA, 1, none⟩ (.int .u32 (offX l k : Int))) ⟨gA, 2, none⟩ (.int .u32 (k : Int))) ⟨gA, 3, none⟩ (.int .u64 (firstX l k : Int))) ⟨gA, 4, none⟩ (.int .u64 (seqL (l.take k) : Int))) = y43 at *
            refine plan_last (by rfl) (by kernel_rfl) ?_
            have d0 := QB.out.cell 0
            have f0 := QB.out.frozen 0
            have d1 := QB.out.cell 1
            have f1 := QB.out.frozen 1
            have d2 := QB.out.cell 2
            have f2 := QB.out.frozen 2
            have d3 := QB.out.cell 3
            have f3 := QB.out.frozen 3
            have d4 := QB.out.cell 4
            have f4 := QB.out.frozen 4
            go_wp2_with fail
            have HB := Lib.hid (((((HB.out.setCell (p := ⟨gB, 0, none⟩) bB (.int .u32 7)).setCell (p := ⟨gB, 1, none⟩) bB (.int .u32 (offX l m : Int))).setCell (p := ⟨gB, 2, none⟩) bB (.int .u32 (m : Int))).setCell (p := ⟨gB, 3, none⟩) bB (.int .u64 (firstX l m : Int))).setCell (p := ⟨gB, 4, none⟩) bB (.int .u64 (seqL (l.take m) : Int)))
            have QA := Lib.hid (((((QA.out.far (p := ⟨gB, 0, none⟩) nAB (.int .u32 7)).far (p := ⟨gB, 1, none⟩) nAB (.int .u32 (offX l m : Int))).far (p := ⟨gB, 2, none⟩) nAB (.int .u32 (m : Int))).far (p := ⟨gB, 3, none⟩) nAB (.int .u64 (firstX l m : Int))).far (p := ⟨gB, 4, none⟩) nAB (.int .u64 (seqL (l.take m) : Int)))
            have qB : Blk (World.setCell (World.setCell (World.setCell (World.setCell (World.setCell y43 ⟨gB, 0, none⟩ (.int .u32 7)) ⟨gB, 1, none⟩ (.int .u32 (offX l m : Int))) ⟨gB, 2, none⟩ (.int .u32 (m : Int))) ⟨gB, 3, none⟩ (.int .u64 (firstX l m : Int))) ⟨gB, 4, none⟩ (.int .u64 (seqL (l.take m) : Int))) gB _ #[.int .u32 7, .int .u32 (offX l m : Int), .int .u32 (m : Int), .int .u64 (firstX l m : Int), .int .u64 (seqL (l.take m) : Int)] := (blk_eq (((((QB.out.set_ 0 (.int .u32 7)).set_ 1 (.int .u32 (offX l m : Int))).set_ 2 (.int .u32 (m : Int))).set_ 3 (.int .u64 (firstX l m : Int))).set_ 4 (.int .u64 (seqL (l.take m) : Int))) rfl)
            have QB := Lib.hid qB
            clear qB d0 f0 d1 f1 d2 f2 d3 f3 d4 f4
            generalize (World.setCell (World.setCell (World.setCell (World.setCell (World.setCell y43 ⟨gB, 0, none⟩ (.int .u32 7)) ⟨gB, 1, none⟩ (.int .u32 (offX l m : Int))) ⟨gB, 2, none⟩ (.int .u32 (m : Int))) ⟨gB, 3, none⟩ (.int .u64 (firstX l m : Int))) ⟨gB, 4, none⟩ (.int .u64 (seqL (l.take m) : Int))) = y44 at *
            refine plan_end ?_
            go_wp2_with fail
            go_meet
            case rel => exact ⟨gA, gB, rfl, rfl, QA.out, QB.out, HB.out⟩
        · skip
          go_wp2_with fail
          have hBe := (Below.refl _ wd).alloc (Nat.le_refl _) (.cells #[.int .u32 0, .int .u32 0, .int .u32 0, .int .u64 0, .int .u64 0] 39)
          have qB := Blk.new wd 39 #[.int .u32 0, .int .u32 0, .int .u32 0, .int .u64 0, .int .u64 0]
          have hsz := HB.out.size
          obtain ⟨gB, hgB⟩ : ∃ g, g = wd.heap.size := ⟨_, rfl⟩
          rw [← hgB] at qB ⊢
          have bB : wr.heap.size ≤ gB := by omega
          have HB := Lib.hid (belowGo HB.out hBe)
          have QB := Lib.hid qB
          clear hgB hsz hBe qB 
          generalize wd.alloc (.cells #[.int .u32 0, .int .u32 0, .int .u32 0, .int .u64 0, .int .u64 0] 39) = y45 at *
          refine ⟨HB.out, ?_⟩
          refine plan_fork (by rfl) (by rfl) ?_ ?_
          · skip
            go_wp2_with fail
            refine (Lib.hid (seal_segX (by omega) (by omega) hf (BX.out.after HB.out))).out.mono ?_
            rintro e y46 ⟨rfl, hBe⟩
            have HB := Lib.hid (belowGo HB.out hBe)
            have QB := Lib.hid (QB.out.after hBe)
            clear hBe
            go_wp2_with fail
            refine ⟨HB.out, ?_⟩
            refine plan_fork (by rfl) (by rfl) ?_ ?_
            · skip
              go_wp2_with fail
              refine (Lib.hid (seal_segX (by omega) (by omega) hf (BY.out.after HB.out))).out.mono ?_
              rintro e y47 ⟨rfl, hBe⟩
              have HB := Lib.hid (belowGo HB.out hBe)
              have QB := Lib.hid (QB.out.after hBe)
              clear hBe
              go_wp2_with fail
              refine ⟨HB.out, ?_⟩
              refine plan_act (by rfl) ?_
              go_wp2_with fail
              have lB := QB.out.lt
              have hBe := (Below.refl _ y47).alloc (Nat.le_refl _) (.cells #[.int .u32 0, .int .u32 0, .int .u32 0, .int .u64 0, .int .u64 0] 39)
              have qA := Blk.new y47 39 #[.int .u32 0, .int .u32 0, .int .u32 0, .int .u64 0, .int .u64 0]
              have hsz := HB.out.size
              obtain ⟨gA, hgA⟩ : ∃ g, g = y47.heap.size := ⟨_, rfl⟩
              rw [← hgA] at qA ⊢
              have bA : wr.heap.size ≤ gA := by omega
              have nAB : gA ≠ gB := by omega
              have HB := Lib.hid (belowGo HB.out hBe)
              have QB := Lib.hid (QB.out.after hBe)
              have QA := Lib.hid qA
              clear hgA hsz hBe qA lB
              generalize y47.alloc (.cells #[.int .u32 0, .int .u32 0, .int .u32 0, .int .u64 0, .int .u64 0] 39) = y48 at *
              refine ⟨HB.out, ?_⟩
              refine plan_last (by rfl) (by kernel_rfl) ?_
              have d0 := QA.out.cell 0
              have f0 := QA.out.frozen 0
              have d1 := QA.out.cell 1
              have f1 := QA.out.frozen 1
              have d2 := QA.out.cell 2
              have f2 := QA.out.frozen 2
              have d3 := QA.out.cell 3
              have f3 := QA.out.frozen 3
              have d4 := QA.out.cell 4
              have f4 := QA.out.frozen 4
              go_wp2_with fail
              have HB := Lib.hid (((((HB.out.setCell (p := ⟨gA, 0, none⟩) bA (.int .u32 7)).setCell (p := ⟨gA, 1, none⟩) bA (.int .u32 (offX l k : Int))).setCell (p := ⟨gA, 2, none⟩) bA (.int .u32 (k : Int))).setCell (p := ⟨gA, 3, none⟩) bA (.int .u64 (firstX l k : Int))).setCell (p := ⟨gA, 4, none⟩) bA (.int .u64 (seqL (l.take k) : Int)))
              have QB := Lib.hid (((((QB.out.far (p := ⟨gA, 0, none⟩) nAB.symm (.int .u32 7)).far (p := ⟨gA, 1, none⟩) nAB.symm (.int .u32 (offX l k : Int))).far (p := ⟨gA, 2, none⟩) nAB.symm (.int .u32 (k : Int))).far (p := ⟨gA, 3, none⟩) nAB.symm (.int .u64 (firstX l k : Int))).far (p := ⟨gA, 4, none⟩) nAB.symm (.int .u64 (seqL (l.take k) : Int)))
              have qA : Blk (World.setCell (World.setCell (World.setCell (World.setCell (World.setCell y48 ⟨gA, 0, none⟩ (.int .u32 7)) ⟨gA, 1, none⟩ (.int .u32 (offX l k : Int))) ⟨gA, 2, none⟩ (.int .u32 (k : Int))) ⟨gA, 3, none⟩ (.int .u64 (firstX l k : Int))) ⟨gA, 4, none⟩ (.int .u64 (seqL (l.take k) : Int))) gA _ #[.int .u32 7, .int .u32 (offX l k : Int), .int .u32 (k : Int), .int .u64 (firstX l k : Int), .int .u64 (seqL (l.take k) : Int)] := (blk_eq (((((QA.out.set_ 0 (.int .u32 7)).set_ 1 (.int .u32 (offX l k : Int))).set_ 2 (.int .u32 (k : Int))).set_ 3 (.int .u64 (firstX l k : Int))).set_ 4 (.int .u64 (seqL (l.take k) : Int))) rfl)
              have QA := Lib.hid qA
              clear qA d0 f0 d1 f1 d2 f2 d3 f3 d4 f4
              generalize (World.setCell (World.setCell (World.setCell (World.setCell (World.setCell y48 ⟨gA, 0, none⟩ (.int .u32 7)) ⟨gA, 1, none⟩ (.int .u32 (offX l k : Int))) ⟨gA, 2, none⟩ (.int .u32 (k : Int))) ⟨gA, 3, none⟩ (.int .u64 (firstX l k : Int))) ⟨gA, 4, none⟩ (.int .u64 (seqL (l.take k) : Int))) = y49 at *
              refine plan_last (by rfl) (by kernel_rfl) ?_
              have d0 := QB.out.cell 0
              have f0 := QB.out.frozen 0
              have d1 := QB.out.cell 1
              have f1 := QB.out.frozen 1
              have d2 := QB.out.cell 2
              have f2 := QB.out.frozen 2
              have d3 := QB.out.cell 3
              have f3 := QB.out.frozen 3
              have d4 := QB.out.cell 4
              have f4 := QB.out.frozen 4
              go_wp2_with fail
              have HB := Lib.hid (((((HB.out.setCell (p := ⟨gB, 0, none⟩) bB (.int .u32 7)).setCell (p := ⟨gB, 1, none⟩) bB (.int .u32 (offX l m : Int))).setCell (p := ⟨gB, 2, none⟩) bB (.int .u32 (m : Int))).setCell (p := ⟨gB, 3, none⟩) bB (.int .u64 (firstX l m : Int))).setCell (p := ⟨gB, 4, none⟩) bB (.int .u64 (seqL (l.take m) : Int)))
              have QA := Lib.hid (((((QA.out.far (p := ⟨gB, 0, none⟩) nAB (.int .u32 7)).far (p := ⟨gB, 1, none⟩) nAB (.int .u32 (offX l m : Int))).far (p := ⟨gB, 2, none⟩) nAB (.int .u32 (m : Int))).far (p := ⟨gB, 3, none⟩) nAB (.int .u64 (firstX l m : Int))).far (p := ⟨gB, 4, none⟩) nAB (.int .u64 (seqL (l.take m) : Int)))
              have qB : Blk (World.setCell (World.setCell (World.setCell (World.setCell (World.setCell y49 ⟨gB, 0, none⟩ (.int .u32 7)) ⟨gB, 1, none⟩ (.int .u32 (offX l m : Int))) ⟨gB, 2, none⟩ (.int .u32 (m : Int))) ⟨gB, 3, none⟩ (.int .u64 (firstX l m : Int))) ⟨gB, 4, none⟩ (.int .u64 (seqL (l.take m) : Int))) gB _ #[.int .u32 7, .int .u32 (offX l m : Int), .int .u32 (m : Int), .int .u64 (firstX l m : Int), .int .u64 (seqL (l.take m) : Int)] := (blk_eq (((((QB.out.set_ 0 (.int .u32 7)).set_ 1 (.int .u32 (offX l m : Int))).set_ 2 (.int .u32 (m : Int))).set_ 3 (.int .u64 (firstX l m : Int))).set_ 4 (.int .u64 (seqL (l.take m) : Int))) rfl)
              have QB := Lib.hid qB
              clear qB d0 f0 d1 f1 d2 f2 d3 f3 d4 f4
              generalize (World.setCell (World.setCell (World.setCell (World.setCell (World.setCell y49 ⟨gB, 0, none⟩ (.int .u32 7)) ⟨gB, 1, none⟩ (.int .u32 (offX l m : Int))) ⟨gB, 2, none⟩ (.int .u32 (m : Int))) ⟨gB, 3, none⟩ (.int .u64 (firstX l m : Int))) ⟨gB, 4, none⟩ (.int .u64 (seqL (l.take m) : Int))) = y50 at *
              refine plan_end ?_
              go_wp2_with fail
              go_meet
              case rel => exact ⟨gA, gB, rfl, rfl, QA.out, QB.out, HB.out⟩
            · skip
              go_wp2_with fail
              have lB := QB.out.lt
              have hBe := (Below.refl _ y46).alloc (Nat.le_refl _) (.cells #[.int .u32 0, .int .u32 0, .int .u32 0, .int .u64 0, .int .u64 0] 39)
              have qA := Blk.new y46 39 #[.int .u32 0, .int .u32 0, .int .u32 0, .int .u64 0, .int .u64 0]
              have hsz := HB.out.size
              obtain ⟨gA, hgA⟩ : ∃ g, g = y46.heap.size := ⟨_, rfl⟩
              rw [← hgA] at qA ⊢
              have bA : wr.heap.size ≤ gA := by omega
              have nAB : gA ≠ gB := by omega
              have HB := Lib.hid (belowGo HB.out hBe)
              have QB := Lib.hid (QB.out.after hBe)
              have QA := Lib.hid qA
              clear hgA hsz hBe qA lB
              generalize y46.alloc (.cells #[.int .u32 0, .int .u32 0, .int .u32 0, .int .u64 0, .int .u64 0] 39) = y51 at *
              refine ⟨HB.out, ?_⟩
              refine plan_act (by rfl) ?_
              go_wp2_with fail
              refine (Lib.hid (seal_segX (by omega) (by omega) hf (BY.out.after HB.out))).out.mono ?_
              rintro e y52 ⟨rfl, hBe⟩
              have HB := Lib.hid (belowGo HB.out hBe)
              have QB := Lib.hid (QB.out.after hBe)
              have QA := Lib.hid (QA.out.after hBe)
              clear hBe
              go_wp2_with fail
              refine ⟨HB.out, ?_⟩
              refine plan_last (by rfl) (by kernel_rfl) ?_
              have d0 := QA.out.cell 0
              have f0 := QA.out.frozen 0
              have d1 := QA.out.cell 1
              have f1 := QA.out.frozen 1
              have d2 := QA.out.cell 2
              have f2 := QA.out.frozen 2
              have d3 := QA.out.cell 3
              have f3 := QA.out.frozen 3
              have d4 := QA.out.cell 4
              have f4 := QA.out.frozen 4
              go_wp2_with fail
              have HB := Lib.hid (((((HB.out.setCell (p := ⟨gA, 0, none⟩) bA (.int .u32 7)).setCell (p := ⟨gA, 1, none⟩) bA (.int .u32 (offX l k : Int))).setCell (p := ⟨gA, 2, none⟩) bA (.int .u32 (k : Int))).setCell (p := ⟨gA, 3, none⟩) bA (.int .u64 (firstX l k : Int))).setCell (p := ⟨gA, 4, none⟩) bA (.int .u64 (seqL (l.take k) : Int)))
              have QB := Lib.hid (((((QB.out.far (p := ⟨gA, 0, none⟩) nAB.symm (.int .u32 7)).far (p := ⟨gA, 1, none⟩) nAB.symm (.int .u32 (offX l k : Int))).far (p := ⟨gA, 2, none⟩) nAB.symm (.int .u32 (k : Int))).far (p := ⟨gA, 3, none⟩) nAB.symm (.int .u64 (firstX l k : Int))).far (p := ⟨gA, 4, none⟩) nAB.symm (.int .u64 (seqL (l.take k) : Int)))
              have qA : Blk (World.setCell (World.setCell (World.setCell (World.setCell (World.setCell y52 ⟨gA, 0, none⟩ (.int .u32 7)) ⟨gA, 1, none⟩ (.int .u32 (offX l k : Int))) ⟨gA, 2, none⟩ (.int .u32 (k : Int))) ⟨gA, 3, none⟩ (.int .u64 (firstX l k : Int))) ⟨gA, 4, none⟩ (.int .u64 (seqL (l.take k) : Int))) gA _ #[.int .u32 7, .int .u32 (offX l k : Int), .int .u32 (k : Int), .int .u64 (firstX l k : Int), .int .u64 (seqL (l.take k) : Int)] := (blk_eq (((((QA.out.set_ 0 (.int .u32 7)).set_ 1 (.int .u32 (offX l k : Int))).set_ 2 (.int .u32 (k : Int))).set_ 3 (.int .u64 (firstX l k : Int))).set_ 4 (.int .u64 (seqL (l.take k) : Int))) rfl)
              have QA := Lib.hid qA
              clear qA d0 f0 d1 f1 d2 f2 d3 f3 d4 f4
              generalize (World.setCell (World.setCell (World.setCell (World.setCell (World.setCell y52 ⟨gA, 0, none⟩ (.int .u32 7)) ⟨gA, 1, none⟩ (.int .u32 (offX l k : Int))) ⟨gA, 2, none⟩ (.int .u32 (k : Int))) ⟨gA, 3, none⟩ (.int .u64 (firstX l k : Int))) ⟨gA, 4, none⟩ (.int .u64 (seqL (l.take k) : Int))) = y53 at *
              refine plan_last (by rfl) (by kernel_rfl) ?_
              have d0 := QB.out.cell 0
              have f0 := QB.out.frozen 0
              have d1 := QB.out.cell 1
              have f1 := QB.out.frozen 1
              have d2 := QB.out.cell 2
              have f2 := QB.out.frozen 2
              have d3 := QB.out.cell 3
              have f3 := QB.out.frozen 3
              have d4 := QB.out.cell 4
              have f4 := QB.out.frozen 4
              go_wp2_with fail
              have HB := Lib.hid (((((HB.out.setCell (p := ⟨gB, 0, none⟩) bB (.int .u32 7)).setCell (p := ⟨gB, 1, none⟩) bB (.int .u32 (offX l m : Int))).setCell (p := ⟨gB, 2, none⟩) bB (.int .u32 (m : Int))).setCell (p := ⟨gB, 3, none⟩) bB (.int .u64 (firstX l m : Int))).setCell (p := ⟨gB, 4, none⟩) bB (.int .u64 (seqL (l.take m) : Int)))
              have QA := Lib.hid (((((QA.out.far (p := ⟨gB, 0, none⟩) nAB (.int .u32 7)).far (p := ⟨gB, 1, none⟩) nAB (.int .u32 (offX l m : Int))).far (p := ⟨gB, 2, none⟩) nAB (.int .u32 (m : Int))).far (p := ⟨gB, 3, none⟩) nAB (.int .u64 (firstX l m : Int))).far (p := ⟨gB, 4, none⟩) nAB (.int .u64 (seqL (l.take m) : Int)))
              have qB : Blk (World.setCell (World.setCell (World.setCell (World.setCell (World.setCell y53 ⟨gB, 0, none⟩ (.int .u32 7)) ⟨gB, 1, none⟩ (.int .u32 (offX l m : Int))) ⟨gB, 2, none⟩ (.int .u32 (m : Int))) ⟨gB, 3, none⟩ (.int .u64 (firstX l m : Int))) ⟨gB, 4, none⟩ (.int .u64 (seqL (l.take m) : Int))) gB _ #[.int .u32 7, .int .u32 (offX l m : Int), .int .u32 (m : Int), .int .u64 (firstX l m : Int), .int .u64 (seqL (l.take m) : Int)] := (blk_eq (((((QB.out.set_ 0 (.int .u32 7)).set_ 1 (.int .u32 (offX l m : Int))).set_ 2 (.int .u32 (m : Int))).set_ 3 (.int .u64 (firstX l m : Int))).set_ 4 (.int .u64 (seqL (l.take m) : Int))) rfl)
              have QB := Lib.hid qB
              clear qB d0 f0 d1 f1 d2 f2 d3 f3 d4 f4
              generalize (World.setCell (World.setCell (World.setCell (World.setCell (World.setCell y53 ⟨gB, 0, none⟩ (.int .u32 7)) ⟨gB, 1, none⟩ (.int .u32 (offX l m : Int))) ⟨gB, 2, none⟩ (.int .u32 (m : Int))) ⟨gB, 3, none⟩ (.int .u64 (firstX l m : Int))) ⟨gB, 4, none⟩ (.int .u64 (seqL (l.take m) : Int))) = y54 at *
              refine plan_end ?_
              go_wp2_with fail
              go_meet
              case rel => exact ⟨gA, gB, rfl, rfl, QA.out, QB.out, HB.out⟩
          · skip
            go_wp2_with fail
            have lB := QB.out.lt
            have hBe := (Below.refl _ y45).alloc (Nat.le_refl _) (.cells #[.int .u32 0, .int .u32 0, .int .u32 0, .int .u64 0, .int .u64 0] 39)
            have qA := Blk.new y45 39 #[.int .u32 0, .int .u32 0, .int .u32 0, .int .u64 0, .int .u64 0]
            have hsz := HB.out.size
            obtain ⟨gA, hgA⟩ : ∃ g, g = y45.heap.size := ⟨_, rfl⟩
            rw [← hgA] at qA ⊢
            have bA : wr.heap.size ≤ gA := by omega
            have nAB : gA ≠ gB := by omega
            have HB := Lib.hid (belowGo HB.out hBe)
            have QB := Lib.hid (QB.out.after hBe)
            have QA := Lib.hid qA
            clear hgA hsz hBe qA lB
            generalize y45.alloc (.cells #[.int .u32 0, .int .u32 0, .int .u32 0, .int .u64 0, .int .u64 0] 39) = y55 at *
            refine ⟨HB.out, ?_⟩
            refine plan_act (by rfl) ?_
            go_wp2_with fail
            refine (Lib.hid (seal_segX (by omega) (by omega) hf (BX.out.after HB.out))).out.mono ?_
            rintro e y56 ⟨rfl, hBe⟩
            have HB := Lib.hid (belowGo HB.out hBe)
            have QB := Lib.hid (QB.out.after hBe)
            have QA := Lib.hid (QA.out.after hBe)
            clear hBe
            go_wp2_with fail
            refine ⟨HB.out, ?_⟩
            refine plan_act (by rfl) ?_
            go_wp2_with fail
            refine (Lib.hid (seal_segX (by omega) (by omega) hf (BY.out.after HB.out))).out.mono ?_
            rintro e y57 ⟨rfl, hBe⟩
            have HB := Lib.hid (belowGo HB.out hBe)
            have QB := Lib.hid (QB.out.after hBe)
            have QA := Lib.hid (QA.out.after hBe)
            clear hBe
            go_wp2_with fail
            refine ⟨HB.out, ?_⟩
            refine plan_last (by rfl) (by kernel_rfl) ?_
            have d0 := QA.out.cell 0
            have f0 := QA.out.frozen 0
            have d1 := QA.out.cell 1
            have f1 := QA.out.frozen 1
            have d2 := QA.out.cell 2
            have f2 := QA.out.frozen 2
            have d3 := QA.out.cell 3
            have f3 := QA.out.frozen 3
            have d4 := QA.out.cell 4
            have f4 := QA.out.frozen 4
            go_wp2_with fail
            have HB := Lib.hid (((((HB.out.setCell (p := ⟨gA, 0, none⟩) bA (.int .u32 7)).setCell (p := ⟨gA, 1, none⟩) bA (.int .u32 (offX l k : Int))).setCell (p := ⟨gA, 2, none⟩) bA (.int .u32 (k : Int))).setCell (p := ⟨gA, 3, none⟩) bA (.int .u64 (firstX l k : Int))).setCell (p := ⟨gA, 4, none⟩) bA (.int .u64 (seqL (l.take k) : Int)))
            have QB := Lib.hid (((((QB.out.far (p := ⟨gA, 0, none⟩) nAB.symm (.int .u32 7)).far (p := ⟨gA, 1, none⟩) nAB.symm (.int .u32 (offX l k : Int))).far (p := ⟨gA, 2, none⟩) nAB.symm (.int .u32 (k : Int))).far (p := ⟨gA, 3, none⟩) nAB.symm (.int .u64 (firstX l k : Int))).far (p := ⟨gA, 4, none⟩) nAB.symm (.int .u64 (seqL (l.take k) : Int)))
            have qA : Blk (World.setCell (World.setCell (World.setCell (World.setCell (World.setCell y57 ⟨gA, 0, none⟩ (.int .u32 7)) ⟨gA, 1, none⟩ (.int .u32 (offX l k : Int))) ⟨gA, 2, none⟩ (.int .u32 (k : Int))) ⟨gA, 3, none⟩ (.int .u64 (firstX l k : Int))) ⟨gA, 4, none⟩ (.int .u64 (seqL (l.take k) : Int))) gA _ #[.int .u32 7, .int .u32 (offX l k : Int), .int .u32 (k : Int), .int .u64 (firstX l k : Int), .int .u64 (seqL (l.take k) : Int)] := (blk_eq (((((QA.out.set_ 0 (.int .u32 7)).set_ 1 (.int .u32 (offX l k : Int))).set_ 2 (.int .u32 (k : Int))).set_ 3 (.int .u64 (firstX l k : Int))).set_ 4 (.int .u64 (seqL (l.take k) : Int))) rfl)
            have QA := Lib.hid qA
            clear qA d0 f0 d1 f1 d2 f2 d3 f3 d4 f4
            generalize (World.setCell (World.setCell (World.setCell (World.setCell (World.setCell y57 ⟨gA, 0, none⟩ (.int .u32 7)) ⟨gA, 1, none⟩ (.int .u32 (offX l k : Int))) ⟨gA, 2, none⟩ (.int .u32 (k : Int))) ⟨gA, 3, none⟩ (.int .u64 (firstX l k : Int))) ⟨gA, 4, none⟩ (.int .u64 (seqL (l.take k) : Int))) = y58 at *
            refine plan_last (by rfl) (by kernel_rfl) ?_
            have d0 := QB.out.cell 0
            have f0 := QB.out.frozen 0
            have d1 := QB.out.cell 1
            have f1 := QB.out.frozen 1
            have d2 := QB.out.cell 2
            have f2 := QB.out.frozen 2
            have d3 := QB.out.cell 3
            have f3 := QB.out.frozen 3
            have d4 := QB.out.cell 4
            have f4 := QB.out.frozen 4
            go_wp2_with fail
            have HB := Lib.hid (((((HB.out.setCell (p := ⟨gB, 0, none⟩) bB (.int .u32 7)).setCell (p := ⟨gB, 1, none⟩) bB (.int .u32 (offX l m : Int))).setCell (p := ⟨gB, 2, none⟩) bB (.int .u32 (m : Int))).setCell (p := ⟨gB, 3, none⟩) bB (.int .u64 (firstX l m : Int))).setCell (p := ⟨gB, 4, none⟩) bB (.int .u64 (seqL (l.take m) : Int)))
            have QA := Lib.hid (((((QA.out.far (p := ⟨gB, 0, none⟩) nAB (.int .u32 7)).far (p := ⟨gB, 1, none⟩) nAB (.int .u32 (offX l m : Int))).far (p := ⟨gB, 2, none⟩) nAB (.int .u32 (m : Int))).far (p := ⟨gB, 3, none⟩) nAB (.int .u64 (firstX l m : Int))).far (p := ⟨gB, 4, none⟩) nAB (.int .u64 (seqL (l.take m) : Int)))
            have qB : Blk (World.setCell (World.setCell (World.setCell (World.setCell (World.setCell y58 ⟨gB, 0, none⟩ (.int .u32 7)) ⟨gB, 1, none⟩ (.int .u32 (offX l m : Int))) ⟨gB, 2, none⟩ (.int .u32 (m : Int))) ⟨gB, 3, none⟩ (.int .u64 (firstX l m : Int))) ⟨gB, 4, none⟩ (.int .u64 (seqL (l.take m) : Int))) gB _ #[.int .u32 7, .int .u32 (offX l m : Int), .int .u32 (m : Int), .int .u64 (firstX l m : Int), .int .u64 (seqL (l.take m) : Int)] := (blk_eq (((((QB.out.set_ 0 (.int .u32 7)).set_ 1 (.int .u32 (offX l m : Int))).set_ 2 (.int .u32 (m : Int))).set_ 3 (.int .u64 (firstX l m : Int))).set_ 4 (.int .u64 (seqL (l.take m) : Int))) rfl)
            have QB := Lib.hid qB
            clear qB d0 f0 d1 f1 d2 f2 d3 f3 d4 f4
            generalize (World.setCell (World.setCell (World.setCell (World.setCell (World.setCell y58 ⟨gB, 0, none⟩ (.int .u32 7)) ⟨gB, 1, none⟩ (.int .u32 (offX l m : Int))) ⟨gB, 2, none⟩ (.int .u32 (m : Int))) ⟨gB, 3, none⟩ (.int .u64 (firstX l m : Int))) ⟨gB, 4, none⟩ (.int .u64 (seqL (l.take m) : Int))) = y59 at *
            refine plan_end ?_
            go_wp2_with fail
            go_meet
            case rel => exact ⟨gA, gB, rfl, rfl, QA.out, QB.out, HB.out⟩
      case rest =>
        obtain ⟨gA, gB, rfl, rfl, qA, qB, hc⟩ := hcut
        have hfk : k ≠ 0 → firstX l k = firstX l m := fun h => by unfold firstX; rw [if_neg h, if_neg (by omega)]
        have hqk : seqL (l.take k) ≤ seqL (l.take m) := by
          rcases Nat.lt_or_ge k m with h | h
          · exact Nat.le_of_lt (seqL_up h hml)
          · rw [show k = m by omega]; exact Nat.le_refl _
        have hqm := seqL_le (l := l.take m) fun x hx => hf x (List.mem_of_mem_take hx)
        rw [List.length_take, Nat.min_eq_left hml] at hqm
        have hom := (offX_le l m).2
        have BX := BX.out.after hc
        have BY := BY.out.after hc
        have hT := HT.out.after hc
        have hb := belowGo HB.out hc
        have HL := lost_segX hkm hml hm20 hf BX
        have qX := BX.q
        have hqlt := hqm
        clear hc HT HB i1 BX BY
        generalize offX l k = ok at *
        generalize offX l m = om at *
        generalize firstX l k = fk at *
        generalize firstX l m = fm at *
        generalize seqL (l.take k) = qk at *
        generalize seqL (l.take m) = qm at *
        obtain ⟨dm, hdm⟩ : ∃ d, d = om - ok := ⟨_, rfl⟩
        obtain ⟨dk, hdk⟩ : ∃ d, d = m - k := ⟨_, rfl⟩
        have e1 : (om : Int) - (ok : Int) = (dm : Int) := by omega
        have e2 : dm < 4294967296 := by omega
        have e3 : (m : Int) - (k : Int) = (dk : Int) := by omega
        have e5 : dk < 4294967296 := by omega
        clear hdm hdk
        have e4 : ¬ (qm : Int) < (qk : Int) := by omega
        have HL := Lib.hid HL
        have QX := Lib.hid qX
        have QA := Lib.hid qA
        have QB := Lib.hid qB
        have HT := Lib.hid hT
        have HB := Lib.hid hb
        have HFK := Lib.hid hfk
        have HQK := Lib.hid hqk
        have HQM := Lib.hid hqm
        have a1 := qA.cell 1
        have a2 := qA.cell 2
        have a3 := qA.cell 3
        have a4 := qA.cell 4
        have b1 := qB.cell 1
        have b2 := qB.cell 2
        have b3 := qB.cell 3
        have b4 := qB.cell 4
        clear qX qA qB hT hb hfk hqk hqm hqlt hom hle hik hcb
        go_upto_region 15 with (fail)
        go_cut [158] from 117 to 158 (fun v wx => v = .bool false ∧ wx = wc)
        case first =>
          by_cases h0 : k = 0
          · have i3 : ¬ (0 : Int) < (k : Int) := by omega
            clear h0
            go_wp2_with fail
            go_meet
            case rel => exact ⟨rfl, rfl⟩
          · have i3 : (0 : Int) < (k : Int) := by omega
            obtain rfl := HFK.out h0
            clear h0
            go_wp2_with fail
            go_meet
            case rel => exact ⟨rfl, rfl⟩
        case rest =>
        obtain ⟨rfl, rfl⟩ := hcut
        clear a1 a2 a3 b1 b2
        have x0 := QX.out.cell 0
        have x1 := QX.out.cell 1
        have x2 := QX.out.cell 2
        have x3 := QX.out.cell 3
        have x4 := QX.out.cell 4
        have b0 := QB.out.cell 0
        have b1 := QB.out.cell 1
        have b2 := QB.out.cell 2
        obtain ⟨fr, hfr⟩ : ∃ fr, fr = if k = 0 then fm else qk + 1 := ⟨_, rfl⟩
        rw [← hfr] at HL
        by_cases hke : k = m
        · have i6 : ((k : Int) == (m : Int)) = true := by rw [hke]; simp
          rw [if_pos hke] at HL
          clear hke
          go_wp2_with fail
          refine HL.out.mono ?_
          unfold RetLost
          rintro e w5 ⟨v, rfl, oL, b5⟩
          obtain ⟨A5, c5, rfl⟩ := own_slice oL
          have hT := HT.out.after b5
          have HB := Lib.hid (belowGo HB.out b5)
          have HK := Lib.hid (knows_any w5 hT)
          clear HL b5 oL hT x0 x1 x2 x3 x4 b0 b1 b2 b3 b4 a4
          simp only [List.length_nil]
          go_wp2_with fail
          refine HK.out.mono ?_
          rintro e w6 ⟨rfl, b6⟩
          have HB := Lib.hid (belowGo HB.out b6)
          clear b6 HK
          go_wp2_with fail
          go_ret
          exact ⟨rfl, HB.out⟩
        · have i6 : ((k : Int) == (m : Int)) = false := by simp; omega
          rw [if_neg hke] at HL
          clear hke
          go_wp2_with fail
          refine HL.out.mono ?_
          unfold RetLost
          rintro e w5 ⟨v, rfl, oL, b5⟩
          have oL : Ow w5 wc.heap.size 53 2 v 1 [.int .u64 (fr : Int), .int .u64 (qm : Int)] := oL
          obtain ⟨gL, cL, rfl, _, _⟩ := own_ptr oL (by decide)
          have hgL := Ow.hi oL gL rfl
          have hAt : At w5 gL 0 [.int .u64 (fr : Int), .int .u64 (qm : Int)] := fun j v hv => oL.cell rfl (by decide) hv
          have hT := HT.out.after b5
          have HB := Lib.hid (belowGo HB.out b5)
          have QA := Lib.hid (QA.out.after b5)
          have QB := Lib.hid (QB.out.after b5)
          have HT := Lib.hid hT
          have HAt := Lib.hid hAt
          clear HL b5 oL hT hAt x0 x1 x2 x3 x4 b0 b1 b2 b3 b4 a4
          have b3 := QB.out.cell 3
          have a4 := QA.out.cell 4
          go_upto_if 175 with (fail)
          go_cut [15] from 175 to 178 (fun v15 wx => v15 = .int .u64 (fr : Int) ∧ wx = w5)
          case first =>
            by_cases h0 : k = 0
            · have i3 : ¬ (0 : Int) < (k : Int) := by omega
              rw [if_pos h0] at hfr
              subst hfr
              clear h0
              go_wp2_with fail
              go_meet
              case rel => exact ⟨rfl, rfl⟩
            · have i3 : (0 : Int) < (k : Int) := by omega
              rw [if_neg h0] at hfr
              have e7 : (qk : Int) + 1 = (fr : Int) := by omega
              have e8 : qk + 1 < 18446744073709551616 := by have := HQK.out; have := HQM.out; omega
              clear h0 hfr
              go_wp2_with fail
              go_meet
              case rel => exact ⟨rfl, rfl⟩
          case rest =>
          obtain ⟨rfl, rfl⟩ := hcut
          clear b3 a4 hfr
          go_upto_region 23 with (fail)
          have hc0 := Below.drew_ wc
          refine wp_region_tree (fun W => Below wc.heap.size wc W) (row [.calms [0, 1, 2, 3, 4, 5, 7, 8], .read 6, .read 9, .read 10, .read 11, .calms [12, 13], .act 14, .calms [15, 16]] .done) (by kernel_rfl) (by rfl) (by kernel_rfl) (by kernel_rfl) hc0 ?_
          have HC := Lib.hid hc0
          have HTd := Lib.hid (HT.out.after hc0)
          clear hc0
          generalize wc.drew = wd at *
          refine plan_calms (by simp [calmRow, need, chk]; rfl) ?_
          go_wp2_with fail
          refine plan_read (by rfl) (.agg #[.int .u64 (fr : Int), .int .u64 (qm : Int)]) (by rfl) (fun W hW => exec_load_mid rfl rfl (HAt.out.after hgL hW) Tryd.underlying53 rfl (by kernel_rfl)) ?_
          refine plan_read (by rfl) (.int .u64 (qm : Int)) (by rfl) (fun W hW => exec_load rfl rfl (by kernel_rfl) ((QB.out.after hW).cell 4)) ?_
          refine plan_read (by rfl) (.agg #[.int .u64 (fr : Int), .int .u64 (qm : Int)]) (by rfl) (fun W _ => exec_build rfl (by kernel_rfl)) ?_
          refine plan_read (by rfl) (.bool true) (by rfl) (fun W _ => exec_bin rfl (eql_per fr qm _ _ W)) ?_
          refine plan_calms (by simp [calmRow, need]; rfl) ?_
          go_wp2_with fail
          refine plan_last (by rfl) (by kernel_rfl) ?_
          go_wp2_with fail
          refine (Lib.hid (knows_any _ HTd.out)).out.mono ?_
          rintro e y60 ⟨rfl, hBe⟩
          have HC := Lib.hid (belowGo HC.out hBe)
          clear hBe
          go_wp2_with fail
          refine plan_calms (by simp [calmRow, need]; rfl) ?_
          go_wp2_with fail
          refine plan_end ?_
          go_wp2_with fail
          go_ret
          exact ⟨rfl, belowGo HB.out HC.out⟩
end Go.Proofs.YtfapipamohlniaaDoor
