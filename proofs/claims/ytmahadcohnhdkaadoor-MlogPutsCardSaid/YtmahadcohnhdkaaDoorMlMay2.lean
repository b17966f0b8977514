/- Chapter 22: may, whole: which rows it gives, their bytes and where each frame ends. -/
import Derived.Test.YtmahadcohnhdkaaDoorMlFew
namespace Go.Proofs.YtmahadcohnhdkaaDoor
open Go.RowKit
attribute [local go_sem] Oper.semAt_some

def mayX (l : List EdX) : List EdX := l.filter fun x => mayEd x.d
theorem bytesM_len' (l : List Ed) : (bytesM l).length = 16 + (l.flatMap frameB).length := by unfold bytesM; rw [List.length_append, headB_len]
theorem Tryd.infoInt : (Tryd.prog.info? 3).map (fun i => (i.zero, i.size, i.bytes)) = some (some (.int .i64 0), 1, 8) := by kernel_rfl
theorem eltInt : Elt Tryd.prog 47 3 (.int .i64 0) 1 8 := ⟨Tryd.underlying47, Tryd.infoInt, rfl, by omega⟩
def bytesT (X : List EdX) (j : Nat) : List UInt8 := bytesM ((X.take j).map EdX.d)
theorem bytesT_succ {X : List EdX} {j : Nat} {x : EdX} (h : (X.take (j + 1)).map EdX.d = (X.take j).map EdX.d ++ [x.d]) : bytesT X (j + 1) = bytesT X j ++ frameB x.d := by
  unfold bytesT bytesM
  rw [h, List.flatMap_append, List.append_assoc]
  simp
/-- where each frame ends -/
def endC (X : List EdX) (j : Nat) : List Value := (List.range j).map fun k => .int .i64 ((bytesM ((X.take (k + 1)).map EdX.d)).length : Int)
theorem mayX_snoc_yes {l : List EdX} {x : EdX} (h : mayEd x.d = true) : mayX (l ++ [x]) = mayX l ++ [x] := by unfold mayX; rw [List.filter_append]; simp [h]
theorem mayX_snoc_no {l : List EdX} {x : EdX} (h : mayEd x.d = false) : mayX (l ++ [x]) = mayX l := by unfold mayX; rw [List.filter_append]; simp [h]
theorem fewX_ok {x : EdX} {w : World} {B : Nat} (h : x.fit0) (hr : Rd w B 5 x.A x.n (slCells x.d.seals)) : (fewX x).ok w B := by
  obtain ⟨h1, h2, h3, h4⟩ := h
  refine ⟨fewE_fits h1, ?_, ?_, ?_⟩
  · show (x.d.seals.take 210).length = min x.n 210
    rw [List.length_take, h2, Nat.min_comm]
  · show min x.n 210 ≤ x.c
    omega
  · show Rd w B 5 x.A (min x.n 210) (slCells (x.d.seals.take 210))
    have := hr.take (k := min x.n 210) (by omega)
    rw [← slCells_take] at this
    rwa [show x.d.seals.take 210 = x.d.seals.take (min x.n 210) from by rw [← h2]; simp [Nat.min_comm]]
theorem fewT_ok {l : List EdX} {w : World} {B k : Nat} (h : ∀ x ∈ l, x.fit0 ∧ Rd w B 5 x.A x.n (slCells x.d.seals)) : ∀ x ∈ fewT l k, x.ok w B := by
  intro x hx
  obtain ⟨y, hy, rfl⟩ := List.mem_map.1 hx
  have := h y (List.mem_of_mem_take hy)
  exact fewX_ok this.1 this.2
theorem fewT_len (l : List EdX) (k : Nat) : (fewT l k).length = min k l.length := by unfold fewT; rw [List.length_map, List.length_take]

def RetMay (w : World) (X : List EdX) (e : Ending) (w' : World) : Prop := ∃ v1 v2 v3, e = .returned (.tuple #[v1, v2, v3]) ∧ Ow w' w.heap.size 31 5 v1 X.length (exCells X) ∧ Ow w' w.heap.size 5 1 v2 (bytesM (X.map EdX.d)).length (bcells (bytesM (X.map EdX.d))) ∧ Ow w' w.heap.size 3 1 v3 X.length (endC X X.length) ∧ Below w.heap.size w w'
set_option maxRecDepth 100000 in
set_option maxHeartbeats 8000000 in
theorem may_loop (l : List EdX) (A : Option Addr) (n c : Nat) (w : World) (hT : Tab w) (hn : l.length = n) (hr : Rd w w.heap.size 5 A n (exCells l)) (hf : ∀ x ∈ l, x.fit0 ∧ Rd w w.heap.size 5 x.A x.n (slCells x.d.seals)) :
    Calls Tryd.prog 16 #[.slice A n c] w (RetMay w (mayX (fewT l 12))) := by
  obtain ⟨X0, hX0⟩ : ∃ X, X = mayX (fewT l 12) := ⟨_, rfl⟩
  rw [← hX0]
  unfold RetMay
  have HX0 := Lib.hid hX0
  clear hX0
  have FW := Lib.hid (fewM_any l A n c w hn hr (fun x hx => (hf x hx).1))
  have HOK := Lib.hid (fewT_ok (k := 12) hf)
  have HTL := Lib.hid hT.1
  have HT := Lib.hid hT
  have hFL := fewT_len l 12
  rw [hn] at hFL
  obtain ⟨m, hm⟩ : ∃ m, m = min n 12 := ⟨_, rfl⟩
  rw [Nat.min_comm, ← hm] at hFL
  rw [← hm] at FW
  have hm12 : m ≤ 12 := by omega
  generalize fewT l 12 = F at *
  have HFL := Lib.hid hFL
  clear hT hr hf hFL hm hn
  go_enter Tryd.func16, Tryd.ntmps16
  go_wp2_with fail
  refine FW.out.mono ?_
  rintro e w1 ⟨v1, rfl, o1, b1⟩
  obtain ⟨A1, c1, rfl, -⟩ := own_cap o1
  have HB := Lib.hid b1
  have HW1 := Lib.hid b1.size
  have HR := Lib.hid (Rd.of_own o1)
  clear FW o1 b1
  go_wp2_with fail
  go_loopw [5, 18] (fun v i wr => ∃ j : Nat, j ≤ m ∧ i = .int .i64 (j : Int) ∧ Below w1.heap.size w1 wr ∧ (mayX (F.take j)).length ≤ j ∧ Ow wr w1.heap.size 31 5 v (mayX (F.take j)).length (exCells (mayX (F.take j)))) (fun _ i _ => m - (intOf i).toNat)
  case atStart => exact ⟨0, Nat.zero_le _, rfl, Below.refl _ _, Nat.le_refl _, World.ownsRow_nil _ _ _ _⟩
  case round =>
    obtain ⟨j, hj, rfl, hb, hlj, o⟩ := hrel
    obtain ⟨A5, c5, rfl, -⟩ := own_cap o
    have HB1 := Lib.hid hb
    have O : Hid (Ow _ _ _ _ _ _ _) := Lib.hid o
    clear hb o
    by_cases hlt : j < m
    · have hji : (j : Int) < (m : Int) := by omega
      obtain ⟨p, off, rfl, hpl, hcell⟩ := HR.out.2.2 (by omega)
      obtain ⟨x, hx⟩ : ∃ x, F[j]? = some x := ⟨F[j]'(by have := HFL.out; omega), List.getElem?_eq_getElem _⟩
      obtain ⟨xf, xl, xc, xr⟩ := HOK.out x (List.mem_of_getElem? hx)
      have hat := (exAt hcell hx).after hpl HB1.out
      have htk : F.take (j + 1) = F.take j ++ [x] := by rw [List.take_add_one, hx]; rfl
      obtain ⟨S, hS⟩ : ∃ S : ByteArray, S = ⟨x.d.name.toArray⟩ := ⟨_, rfl⟩
      have hat : At wr p (off + j * 5) [.int .i64 x.d.kind, .string S, .int .u64 (x.d.seq : Int), .int .u32 (x.d.id : Int), .slice x.A x.n x.c] := by rw [hS]; exact hat
      have HAT := Lib.hid hat
      have HTK := Lib.hid htk
      have HS := Lib.hid hS
      have q7 := Blk.new wr 31 #[.int .i64 x.d.kind, .string S, .int .u64 (x.d.seq : Int), .int .u32 (x.d.id : Int), .slice x.A x.n x.c]
      have bz := belowAlloc (Below.refl wr.heap.size wr) (.cells #[.int .i64 x.d.kind, .string S, .int .u64 (x.d.seq : Int), .int .u32 (x.d.id : Int), .slice x.A x.n x.c] 31)
      have HB1 := Lib.hid (belowGo HB1.out bz)
      have O : Hid (Ow _ _ _ _ _ _ _) := Lib.hid (Ow.after O.out bz)
      have MA := Lib.hid (mayEd_any x.d xf x.A x.n x.c (wr.alloc (.cells #[.int .i64 x.d.kind, .string S, .int .u64 (x.d.seq : Int), .int .u32 (x.d.id : Int), .slice x.A x.n x.c] 31)) xl ((xr.below (belowGo HB.out HB1.out) (Nat.le_refl _)).more (belowGo HB.out HB1.out).size) xc)
      rw [show edC x.d ⟨x.d.name.toArray⟩ (.slice x.A x.n x.c) = #[.int .i64 x.d.kind, .string S, .int .u64 (x.d.seq : Int), .int .u32 (x.d.id : Int), .slice x.A x.n x.c] from by rw [hS]; rfl] at MA
      have Q7 := Lib.hid q7
      clear hcell hpl hx hat htk hS q7 xf xl xc xr bz
      go_upto_region 5 with (first
        | (refine wpList_value rfl (exec_load_mid rfl rfl HAT.out Tryd.underlying31 rfl (by kernel_rfl)) ?_)
        | fail)
      generalize wr.alloc (.cells #[.int .i64 x.d.kind, .string S, .int .u64 (x.d.seq : Int), .int .u32 (x.d.id : Int), .slice x.A x.n x.c] 31) = w2 at *
      go_wp2_with (first
        | (refine wpList_value rfl (exec_load_blk rfl rfl Q7.out Tryd.underlying31 rfl (by kernel_rfl)) ?_)
        | fail)
      refine MA.out.mono ?_
      rintro e w3 ⟨rfl, b3⟩
      have HB1 := Lib.hid (belowGo HB1.out b3)
      have O : Hid (Ow _ _ _ _ _ _ _) := Lib.hid (Ow.after O.out b3)
      have Q7 := Lib.hid (Q7.out.after b3)
      clear MA b3
      cases hm : mayEd x.d with
      | false =>
        have hno : mayX (F.take (j + 1)) = mayX (F.take j) := by rw [HTK.out]; exact mayX_snoc_no hm
        have HNO := Lib.hid hno
        clear hno hm
        go_wp2_with fail
        go_roundw
        case rel => exact ⟨j + 1, by omega, by go_num, HB1.out, by rw [HNO.out]; omega, by rw [HNO.out]; exact O.out⟩
        case measure => simp [intOf]; omega
      | true =>
        have hno : mayX (F.take (j + 1)) = mayX (F.take j) ++ [x] := by rw [HTK.out]; exact mayX_snoc_yes hm
        have HNO := Lib.hid hno
        clear hno hm
        go_upto_region 7 with (first
          | (refine wpList_value rfl (exec_load_blk rfl rfl Q7.out Tryd.underlying31 rfl (by kernel_rfl)) ?_)
          | (at_builtin; refine wpList_push eltEdit rfl (.tmp 24) (.tmp 26) rfl (W := w3) rfl O.out rfl rfl (by simp [Value.oneCell']) (by omega) (by unfold maxLen; omega) HB1.out HB1.out.size ?_; intro v6 w6 o6 b6 x6 y6; have HB1 := Lib.hid b6; have O6 : Hid (Ow _ _ _ _ _ _ _) := Lib.hid o6; clear o6 b6 x6 y6)
          | fail)
        go_wp2_with fail
        go_roundw
        case rel =>
          refine ⟨j + 1, by omega, by go_num, HB1.out, by rw [HNO.out, List.length_append]; show _ + 1 ≤ _; omega, ?_⟩
          rw [HNO.out, List.length_append]
          unfold exCells
          rw [List.flatMap_append]
          have := O6.out
          rw [HS.out] at this
          simpa [exCells, EdX.cells, edC] using this
        case measure => simp [intOf]; omega
    · obtain rfl : j = m := by omega
      have hji : ¬ (j : Int) < (j : Int) := by omega
      have htk : F.take j = F := List.take_of_length_le (by have := HFL.out; omega)
      rw [htk] at O hlj ⊢
      have hk : (mayX F).length ≤ 12 := by rw [htk] at *; omega
      have HB2 := Lib.hid (belowGo HB.out HB1.out)
      have B8 := Lib.hid (bytesM_any [] none 0 0 wr (HT.out.below HB2.out HTL.out) rfl (by omega) (Rd.nil_ _ _ _ _) (fun x hx => by cases hx))
      unfold RetBytes at B8
      rw [show (([] : List EdX).map EdX.d) = [] from rfl, show ([] : List Ed).all mayEd = true from rfl, show bytesP [] = bytesM [] from rfl, if_pos rfl, show (bytesM []).length = 16 from by rw [bytesM_len']; rfl] at B8
      clear htk
      go_wp2_with fail
      refine B8.out.mono ?_
      rintro e w3 ⟨v8, rfl, o8, b8⟩
      obtain ⟨A8, c8, rfl, -⟩ := own_cap o8
      have HXO := Lib.hid (fun x (hx : x ∈ mayX F) => (⟨HOK.out x ((List.mem_filter.1 hx).1), (List.mem_filter.1 hx).2⟩ : x.ok w w.heap.size ∧ mayEd x.d = true))
      have HB3 := Lib.hid (belowGo HB2.out b8)
      have O : Hid (Ow _ _ _ _ _ _ _) := Lib.hid (Ow.after O.out b8)
      have O8 : Hid (Ow _ _ _ _ _ _ _) := Lib.hid o8
      have HW3 := Lib.hid (Nat.le_trans HB2.out.size b8.size)
      have HWR := Lib.hid HB2.out.size
      obtain ⟨N, hN⟩ : ∃ N, N = (mayX F).length := ⟨_, rfl⟩
      rw [← hN] at O hk ⊢
      have HNN := Lib.hid hN
      have HWW := Lib.hid b8.size
      generalize mayX F = X at *
      obtain ⟨B0, hB0⟩ : ∃ b, b = wr.heap.size := ⟨_, rfl⟩
      have O8 : Hid (Ow w3 B0 _ _ _ _ _) := Lib.hid (by rw [hB0]; exact O8.out)
      have HWW : Hid (B0 ≤ w3.heap.size) := Lib.hid (by rw [hB0]; exact HWW.out)
      have HWR0 : Hid (w.heap.size ≤ B0) := Lib.hid (by rw [hB0]; exact HWR.out)
      clear hB0
      clear B8 o8 b8 hN HB1 HB2 HB hlj hlt
      go_wp2_with fail
      go_loopw [8, 10, 35] (fun v8 v10 i wx => ∃ j : Nat, j ≤ N ∧ i = .int .i64 (j : Int) ∧ Below w.heap.size w wx ∧ B0 ≤ wx.heap.size ∧ (bytesT X j).length ≤ 16 + 10012 * j ∧ Ow wx B0 5 1 v8 (bytesT X j).length (bcells (bytesT X j)) ∧ Ow wx B0 3 1 v10 j (endC X j) ∧ Ow wx w1.heap.size 31 5 (.slice A5 N c5) N (exCells X)) (fun _ _ i _ => N - (intOf i).toNat)
      case atStart => exact ⟨0, Nat.zero_le _, rfl, HB3.out, HWW.out, by show (bytesM []).length ≤ _; rw [bytesM_len']; simp, by show Ow _ _ _ _ _ (bytesM []).length (bcells (bytesM [])); exact O8.out, World.ownsRow_nil _ _ _ _, O.out⟩
      case round =>
        obtain ⟨j2, hj2, rfl, hb, hwx, hml, o8, o10, o5⟩ := hrel
        obtain ⟨A8', c8', rfl, -⟩ := own_cap o8
        obtain ⟨A10, c10, rfl, -⟩ := own_cap o10
        have HB := Lib.hid hb
        have O8 : Hid (Ow _ _ _ _ _ _ _) := Lib.hid o8
        have O10 : Hid (Ow _ _ _ _ _ _ _) := Lib.hid o10
        have O5 : Hid (Ow _ _ _ _ _ _ _) := Lib.hid o5
        clear hb o8 o10 o5
        by_cases hlt : j2 < N
        · have hji2 : (j2 : Int) < (N : Int) := by omega
          obtain ⟨p, off, rfl, hpl, hcell⟩ := (Rd.of_own O5.out).2.2 (by omega)
          obtain ⟨x, hx⟩ : ∃ x, X[j2]? = some x := ⟨X[j2]'(by have := HNN.out; omega), List.getElem?_eq_getElem _⟩
          obtain ⟨⟨xf, xl, xc, xr⟩, xm⟩ := HXO.out x (List.mem_of_getElem? hx)
          have hat := exAt hcell hx
          have htk : (X.take (j2 + 1)).map EdX.d = (X.take j2).map EdX.d ++ [x.d] := by rw [List.take_add_one, hx, List.map_append]; rfl
          obtain ⟨S, hS⟩ : ∃ S : ByteArray, S = ⟨x.d.name.toArray⟩ := ⟨_, rfl⟩
          have hat : At wr p (off + j2 * 5) [.int .i64 x.d.kind, .string S, .int .u64 (x.d.seq : Int), .int .u32 (x.d.id : Int), .slice x.A x.n x.c] := by rw [hS]; exact hat
          have HAT := Lib.hid hat
          have HTK := Lib.hid htk
          have q12 := Blk.new wr 31 #[.int .i64 x.d.kind, .string S, .int .u64 (x.d.seq : Int), .int .u32 (x.d.id : Int), .slice x.A x.n x.c]
          have bz := belowAlloc (Below.refl wr.heap.size wr) (.cells #[.int .i64 x.d.kind, .string S, .int .u64 (x.d.seq : Int), .int .u32 (x.d.id : Int), .slice x.A x.n x.c] 31)
          have HB := Lib.hid (belowGo HB.out bz)
          have O8 : Hid (Ow _ _ _ _ _ _ _) := Lib.hid (Ow.after O8.out bz)
          have O10 : Hid (Ow _ _ _ _ _ _ _) := Lib.hid (Ow.after O10.out bz)
          have O5 : Hid (Ow _ _ _ _ _ _ _) := Lib.hid (Ow.after O5.out bz)
          have PM := Lib.hid (putM_any x.d xf x.A x.n x.c (wr.alloc (.cells #[.int .i64 x.d.kind, .string S, .int .u64 (x.d.seq : Int), .int .u32 (x.d.id : Int), .slice x.A x.n x.c] 31)) (HT.out.below HB.out HTL.out) xl ((xr.below HB.out (Nat.le_refl _)).more HB.out.size) xc)
          unfold RetPutM at PM
          rw [show edC x.d ⟨x.d.name.toArray⟩ (.slice x.A x.n x.c) = #[.int .i64 x.d.kind, .string S, .int .u64 (x.d.seq : Int), .int .u32 (x.d.id : Int), .slice x.A x.n x.c] from by rw [hS]; rfl, xm, if_pos rfl, show putM x.d = frameB x.d from by unfold putM; rw [xm]; rfl] at PM
          have hfl : (frameB x.d).length ≤ 10012 := by rw [frameB_len]; have := edB_short xm; omega
          have Q12 := Lib.hid q12
          have hwx2 := bz.size
          clear hcell hpl hx hat htk hS q12 xf xl xc xr xm bz
          go_upto_region 13 with (first
            | (refine wpList_value rfl (exec_load_mid rfl rfl HAT.out Tryd.underlying31 rfl (by kernel_rfl)) ?_)
            | fail)
          generalize wr.alloc (.cells #[.int .i64 x.d.kind, .string S, .int .u64 (x.d.seq : Int), .int .u32 (x.d.id : Int), .slice x.A x.n x.c] 31) = w4 at *
          go_wp2_with (first
            | (refine wpList_value rfl (exec_load_blk rfl rfl Q12.out Tryd.underlying31 rfl (by kernel_rfl)) ?_)
            | fail)
          refine PM.out.mono ?_
          rintro e w5 ⟨v5, rfl, o5', b5⟩
          obtain ⟨A6, c6, rfl, -⟩ := own_cap o5'
          have R6 := Lib.hid (Rd.of_own o5')
          have HB := Lib.hid (belowGo HB.out b5)
          have O8 : Hid (Ow _ _ _ _ _ _ _) := Lib.hid (Ow.after O8.out b5)
          have O10 : Hid (Ow _ _ _ _ _ _ _) := Lib.hid (Ow.after O10.out b5)
          have O5 : Hid (Ow _ _ _ _ _ _ _) := Lib.hid (Ow.after O5.out b5)
          have HW5 := Lib.hid (show B0 ≤ w5.heap.size from Nat.le_trans hwx (Nat.le_trans hwx2 b5.size))
          obtain ⟨q8, hq8⟩ : ∃ q, q = (bytesT X j2).length := ⟨_, rfl⟩
          obtain ⟨fl, hfl2⟩ : ∃ q, q = (frameB x.d).length := ⟨_, rfl⟩
          rw [← hq8] at O8 hml ⊢
          rw [← hfl2] at R6 hfl ⊢
          have HQ8 := Lib.hid hq8
          have HFL2 := Lib.hid hfl2
          clear PM o5' b5 hwx2 hwx hq8 hfl2 Q12 HAT
          go_upto_region 15 with (first
            | (at_builtin; refine wpList_app eltU8 rfl (.tmp 44) (.tmp 45) rfl rfl O8.out rfl R6.out (bcells_one _) (by omega) (by unfold maxLen; omega) (Below.refl _ _) HW5.out ?_; intro v6 w6 o6 b6 g6 x6; obtain ⟨A7, c7, rfl, -⟩ := own_cap o6; have O10 : Hid (Ow _ _ _ _ _ _ _) := Lib.hid (Ow.grownT O10.out O8.out (by decide) g6); have O5 : Hid (Ow _ _ _ _ _ _ _) := Lib.hid (Ow.grownT O5.out O8.out (by decide) g6); have HB := Lib.hid (HB.out.trans (b6.mono HWR0.out)); have HW6 := Lib.hid (Nat.le_trans HW5.out b6.size); have O8n : Hid (Ow _ _ _ _ _ _ _) := Lib.hid o6; clear o6 b6 g6 x6)
            | fail)
          have HTK2 := Lib.hid (bytesT_succ HTK.out)
          go_upto_region 16 with (first
            | (at_builtin; refine wpList_push eltInt rfl (.tmp 47) (.tmp 50) rfl (W := w6) rfl O10.out rfl rfl (by simp [Value.oneCell']) (by omega) (by unfold maxLen; omega) (Below.refl _ _) HW6.out ?_; intro v9 w9 o9 b9 g9 x9; obtain ⟨A11, c11, rfl, -⟩ := own_cap o9; have O8n : Hid (Ow _ _ _ _ _ _ _) := Lib.hid (Ow.grownT O8n.out O10.out (by decide) g9); have O5 : Hid (Ow _ _ _ _ _ _ _) := Lib.hid (Ow.grownT O5.out O10.out (by decide) g9); have HB := Lib.hid (HB.out.trans (b9.mono HWR0.out)); have HW9 := Lib.hid (Nat.le_trans HW6.out b9.size); have O10n : Hid (Ow _ _ _ _ _ _ _) := Lib.hid o9; clear o9 b9 g9 x9)
            | fail)
          go_wp2_with fail
          go_roundw
          case rel =>
            have he : endC X (j2 + 1) = endC X j2 ++ [.int .i64 ((q8 + fl : Nat) : Int)] := by
              unfold endC
              rw [List.range_succ, List.map_append]
              congr 1
              show [Value.int .i64 ((bytesT X (j2 + 1)).length : Int)] = _
              rw [HTK2.out, List.length_append, ← HQ8.out, ← HFL2.out]
            refine ⟨j2 + 1, by omega, by go_num, HB.out, HW9.out, ?_, ?_, ?_, O5.out⟩
            · rw [HTK2.out, List.length_append, ← HQ8.out, ← HFL2.out]; omega
            · rw [HTK2.out, List.length_append, ← HQ8.out, ← HFL2.out, bcells_append]; exact O8n.out
            · rw [he]; simpa using O10n.out
          case measure => simp [intOf]; omega
        · obtain rfl : j2 = N := by omega
          have hji2 : ¬ (j2 : Int) < (j2 : Int) := by omega
          have hbt : bytesT X j2 = bytesM (X.map EdX.d) := by unfold bytesT; rw [List.take_of_length_le (by have := HNN.out; omega)]
          rw [hbt] at O8 ⊢
          clear hbt
          go_wp2_with fail
          refine bodyPost_ret (results_tmp3 rfl _ _ _) rfl ⟨_, _, _, rfl, ?_, ?_, ?_, HB.out⟩
          · rw [HX0.out, ← HNN.out]; exact own_low O5.out HW1.out
          · rw [HX0.out]; exact own_low O8.out HWR0.out
          · rw [HX0.out, ← HNN.out]; exact own_low O10.out HWR0.out
end Go.Proofs.YtmahadcohnhdkaaDoor
