/- MlogPuts: the walk. -/
import Derived.Test.YtmahadcohnhdkaaDoorMlBegins
import Derived.Test.YtmahadcohnhdkaaDoorMlR2
namespace Go.Proofs.YtmahadcohnhdkaaDoor
open Go.RowKit
attribute [local go_sem] Oper.semAt_some

theorem Tryd.infoEditR : (Tryd.prog.info? 29).map (fun i => (i.zero, i.size, i.bytes)) = some (some (.agg #[.int .i64 0, .string ⟨#[]⟩, .int .u64 0, .int .u32 0, .slice none 0 0]), 5, 64) := by kernel_rfl
theorem eltEditR : Elt Tryd.prog 24 29 (.agg #[.int .i64 0, .string ⟨#[]⟩, .int .u64 0, .int .u32 0, .slice none 0 0]) 5 64 := ⟨Tryd.underlying24, Tryd.infoEditR, rfl, by omega⟩
set_option maxRecDepth 100000 in
set_option maxHeartbeats 2000000 in
theorem ofM_any (k : Int) (S : ByteArray) (q i : Int) (A : Option Addr) (n c : Nat) (w : World) :
    Calls Tryd.prog 8 #[.agg #[.int .i64 k, .string S, .int .u64 q, .int .u32 i, .slice A n c]] w fun e w' => e = .returned (.agg #[.int .i64 k, .string S, .int .u64 q, .int .u32 i, .slice A n c]) ∧ Below w.heap.size w w' := by
  have b0 := belowAlloc (belowAlloc (Below.refl w.heap.size w) (.cells #[.int .i64 k, .string S, .int .u64 q, .int .u32 i, .slice A n c] 31)) (.cells #[.int .i64 k, .string S, .int .u64 q, .int .u32 i, .slice A n c] 29)
  go_enter Tryd.func8, Tryd.ntmps8
  go_wp2_with fail
  have q := Blk.newAt (w.alloc (.cells #[.int .i64 k, .string S, .int .u64 q, .int .u32 i, .slice A n c] 31)) 29 #[.int .i64 k, .string S, .int .u64 q, .int .u32 i, .slice A n c] (g := w.heap.size + 1) (by simp)
  exact bodyPost_ret (results_cell1 rfl rfl (res_load q Tryd.underlying29 rfl (by kernel_rfl))) rfl ⟨rfl, b0⟩

set_option maxRecDepth 100000 in
set_option maxHeartbeats 8000000 in
theorem putsM_walk (l : List EdX) (A : Option Addr) (n c : Nat) (w : World) (hT : Tab w) (hn : l.length = n) (hr : Rd w w.heap.size 5 A n (exCells l)) (hf : ∀ x ∈ l, x.fit0 ∧ Rd w w.heap.size 5 x.A x.n (slCells x.d.seals)) :
    Calls Tryd.prog 3 #[.slice A n c] w fun e w' => e = .returned (.bool true) ∧ Below w.heap.size w w' := by
  have FW := Lib.hid (fewM_any l A n c w hn hr (fun x hx => (hf x hx).1))
  have HOK := Lib.hid (fewT_ok (k := 12) hf)
  have HTL := Lib.hid hT.1
  have HT := Lib.hid hT
  have hFL := fewT_len l 12
  rw [hn] at hFL
  obtain ⟨m, hm⟩ : ∃ m, m = min n 12 := ⟨_, rfl⟩
  rw [Nat.min_comm, ← hm] at hFL
  rw [← hm] at FW
  have hm12 : m ≤ 12 := by omega
  generalize fewT l 12 = F at *
  have HFL := Lib.hid hFL
  clear hT hr hf hFL hm hn
  go_enter Tryd.func3, Tryd.ntmps3
  go_wp2_with fail
  refine FW.out.mono ?_
  rintro e w1 ⟨v1, rfl, o1, b1⟩
  obtain ⟨A1, c1, rfl, hc1⟩ := own_cap o1
  have HB1 := Lib.hid b1
  have R1 := Lib.hid (Rd.of_own o1)
  clear FW o1 b1
  go_wp2_with fail
  go_loopw [3, 4] (fun v i wr => ∃ j : Nat, j ≤ m ∧ i = .int .i64 (j : Int) ∧ Below w1.heap.size w1 wr ∧ Ow wr w1.heap.size 29 5 v j (exCells (F.take j))) (fun _ i _ => m - (intOf i).toNat)
  case atStart => exact ⟨0, Nat.zero_le _, rfl, Below.refl _ _, World.ownsRow_nil _ _ _ _⟩
  case round =>
    obtain ⟨j, hj, rfl, hb, o⟩ := hrel
    obtain ⟨A3, c3, rfl, -⟩ := own_cap o
    have HB := Lib.hid hb
    have O : Hid (Ow _ _ _ _ _ _ _) := Lib.hid o
    clear hb o
    by_cases hlt : j < m
    · have hji : (j : Int) < (m : Int) := by omega
      obtain ⟨p, off, rfl, hpl, hcell⟩ := R1.out.2.2 (by omega)
      obtain ⟨x, hx⟩ : ∃ x, F[j]? = some x := ⟨F[j]'(by rw [HFL.out]; exact hlt), List.getElem?_eq_getElem _⟩
      obtain ⟨xf, xl, xc, xr⟩ := HOK.out x (List.mem_of_getElem? hx)
      have hat := exAt hcell hx
      have htk : F.take (j + 1) = F.take j ++ [x] := by rw [List.take_add_one, hx]; rfl
      obtain ⟨S, hS⟩ : ∃ S : ByteArray, S = ⟨x.d.name.toArray⟩ := ⟨_, rfl⟩
      have HAT := Lib.hid (fun W (h : Below w1.heap.size w1 W) => (show At W p (off + j * 5) [.int .i64 x.d.kind, .string S, .int .u64 (x.d.seq : Int), .int .u32 (x.d.id : Int), .slice x.A x.n x.c] from by rw [hS]; exact hat.after hpl h))
      have OF := Lib.hid (fun W => ofM_any x.d.kind S (x.d.seq : Int) (x.d.id : Int) x.A x.n x.c W)
      have PM := Lib.hid (fun W (h : Below w1.heap.size w1 W) => putM_any x.d xf x.A x.n x.c W (HT.out.below (belowGo HB1.out h) HTL.out) xl ((xr.below (belowGo HB1.out h) (Nat.le_refl _)).more (belowGo HB1.out h).size) xc)
      have PR := Lib.hid (fun W (h : Below w1.heap.size w1 W) => rputM_any x.d xf x.A x.n x.c W xl ((xr.below (belowGo HB1.out h) (Nat.le_refl _)).more (belowGo HB1.out h).size) xc)
      rw [show edC x.d ⟨x.d.name.toArray⟩ (.slice x.A x.n x.c) = #[.int .i64 x.d.kind, .string S, .int .u64 (x.d.seq : Int), .int .u32 (x.d.id : Int), .slice x.A x.n x.c] from by rw [hS]; rfl] at PM PR
      unfold RetPutM at PM PR
      have HTK := Lib.hid htk
      have HS := Lib.hid hS
      clear hcell hx hat htk hS xf xl xc xr
      go_wp2_with (first
        | (refine wpList_value rfl (exec_load_mid rfl rfl (HAT.out _ HB.out) Tryd.underlying31 rfl (by kernel_rfl)) ?_)
        | fail)
      refine (OF.out _).mono ?_
      rintro e w2 ⟨rfl, b2⟩
      have HB := Lib.hid (belowGo HB.out b2)
      have O : Hid (Ow _ _ _ _ _ _ _) := Lib.hid (Ow.after O.out b2)
      clear OF b2
      go_upto_region 7 with (first
        | (at_builtin; refine wpList_push eltEditR rfl (.tmp 21) (.tmp 27) rfl (W := w2) rfl O.out rfl rfl (by simp [Value.oneCell']) (by omega) (by unfold maxLen; omega) (Below.refl _ _) HB.out.size ?_; intro v6 w6 o6 b6 x6 y6; have HB := Lib.hid (HB.out.trans b6); have O6 : Hid (Ow _ _ _ _ _ _ _) := Lib.hid o6; clear o6 b6 x6 y6)
        | fail)
      obtain ⟨g6, c6, rfl, -, -⟩ := own_ptr O6.out (by omega)
      have O6 : Hid (Ow w6 w1.heap.size 29 5 (.slice (some ⟨g6, 0, none⟩) (j + 1) c6) (j + 1) (exCells (F.take (j + 1)))) := Lib.hid (by
        have := O6.out
        rw [HS.out] at this
        rw [HTK.out]
        unfold exCells
        rw [List.flatMap_append]
        simpa [exCells, EdX.cells, edC] using this)
      have hat6 : At w6 g6 (j * 5) [.int .i64 x.d.kind, .string S, .int .u64 (x.d.seq : Int), .int .u32 (x.d.id : Int), .slice x.A x.n x.c] := by
        obtain ⟨p6, off6, e6, _, hcell⟩ := (Rd.of_own O6.out).2.2 (by omega)
        injection e6 with e6
        injection e6 with e6 e7
        subst e6 e7
        have hjl : (F.take j).length = j := by rw [List.length_take, HFL.out]; omega
        have hj : (F.take (j + 1))[j]? = some x := by rw [HTK.out, List.getElem?_append_right (by omega), hjl]; simp
        have := exAt hcell hj
        rw [HS.out]
        rw [Nat.zero_add] at this
        exact this
      have hg6 : g6 < w6.heap.size := Ow.hi O6.out g6 rfl
      have HAT6 := Lib.hid hat6
      have PM := Lib.hid (PM.out w6 HB.out)
      obtain ⟨cd, hcd⟩ : ∃ k, k = (if mayEd x.d = true then (0 : Int) else 1) := ⟨_, rfl⟩
      rw [← hcd] at PM PR
      obtain ⟨pl, hpl2⟩ : ∃ k, k = (putM x.d).length := ⟨_, rfl⟩
      rw [← hpl2] at PM PR
      clear hat6 hcd hpl2 O
      go_wp2_with (first
        | (refine wpList_value rfl (exec_load_mid rfl rfl (HAT.out _ HB.out) Tryd.underlying31 rfl (by kernel_rfl)) ?_)
        | fail)
      refine PM.out.mono ?_
      rintro e w7 ⟨v7, rfl, o7, b7⟩
      obtain ⟨A7, c7, rfl, -⟩ := own_cap o7
      have HAT7 := Lib.hid (HAT6.out.after hg6 b7)
      have HB := Lib.hid (belowGo HB.out b7)
      have O6 : Hid (Ow _ _ _ _ _ _ _) := Lib.hid (Ow.after O6.out b7)
      have R7 := Lib.hid (Rd.of_own o7)
      have PR := Lib.hid (PR.out w7 HB.out)
      clear PM o7 b7 HAT6 HAT
      go_wp2_with (first
        | (refine wpList_value rfl (exec_load_mid rfl rfl HAT7.out Tryd.underlying29 rfl (by kernel_rfl)) ?_)
        | fail)
      refine PR.out.mono ?_
      rintro e w8 ⟨v8, rfl, o8, b8⟩
      obtain ⟨A8, c8, rfl, -⟩ := own_cap o8
      have HB := Lib.hid (belowGo HB.out b8)
      have O6 : Hid (Ow _ _ _ _ _ _ _) := Lib.hid (Ow.after O6.out b8)
      have f1 : (convert 32 9 (.slice A7 pl c7)).run Tryd.prog w8 = .ok (.string ⟨(putM x.d).toArray⟩) w8 := run_conv (P := Tryd.prog) Tryd.underlying32 Tryd.underlying5 Tryd.underlying9 c7 (R7.out.after b8)
      have f2 : (convert 32 9 (.slice A8 pl c8)).run Tryd.prog w8 = .ok (.string ⟨(putM x.d).toArray⟩) w8 := run_conv (P := Tryd.prog) Tryd.underlying32 Tryd.underlying5 Tryd.underlying9 c8 (Rd.of_own o8)
      obtain ⟨S2, hS2⟩ : ∃ S : ByteArray, S = ⟨(putM x.d).toArray⟩ := ⟨_, rfl⟩
      rw [← hS2] at f1 f2
      clear PR o8 b8 hS2 HAT7
      go_wp2_with fail
      go_roundw
      case rel => exact ⟨j + 1, by omega, by go_num, HB.out, O6.out⟩
      case measure => simp [intOf]; omega
    · obtain rfl : j = m := by omega
      have hji : ¬ (j : Int) < (j : Int) := by omega
      have htk : F.take j = F := List.take_of_length_le (by have := HFL.out; omega)
      rw [htk] at O
      have HB2 := Lib.hid (belowGo HB1.out HB.out)
      have BM := Lib.hid (bytesM_any F A1 j c1 wr (HT.out.below HB2.out HTL.out) HFL.out (by omega) (R1.out.after HB.out) (fun x hx => (HOK.out x hx).at HB2.out))
      unfold RetBytes at BM
      obtain ⟨cd, hcd⟩ : ∃ k, k = (if (F.map EdX.d).all mayEd = true then (0 : Int) else 1) := ⟨_, rfl⟩
      rw [← hcd] at BM
      have HCD := Lib.hid hcd
      obtain ⟨pl, hpl2⟩ : ∃ k, k = (bytesP (F.map EdX.d)).length := ⟨_, rfl⟩
      rw [← hpl2] at BM
      have HPL := Lib.hid hpl2
      clear htk hcd hpl2
      go_wp2_with fail
      refine BM.out.mono ?_
      rintro e w2 ⟨v2, rfl, o2, b2⟩
      obtain ⟨A2, c2, rfl, -⟩ := own_cap o2
      have R2 := Lib.hid (Rd.of_own o2)
      have HB2 := Lib.hid (belowGo HB2.out b2)
      have O : Hid (Ow _ _ _ _ _ _ _) := Lib.hid (Ow.after O.out b2)
      have BR := Lib.hid (rbytesM_any F A3 j c3 w2 HFL.out (by omega) (Rd.of_own O.out) (fun x hx => (HOK.out x hx).at HB2.out))
      unfold RetBytes at BR
      rw [← HCD.out, ← HPL.out] at BR
      clear BM o2 b2
      go_wp2_with fail
      refine BR.out.mono ?_
      rintro e w3 ⟨v3, rfl, o3, b3⟩
      obtain ⟨A4, c4, rfl, -⟩ := own_cap o3
      have HB2 := Lib.hid (belowGo HB2.out b3)
      have f1 : (convert 32 9 (.slice A2 pl c2)).run Tryd.prog w3 = .ok (.string ⟨(bytesP (F.map EdX.d)).toArray⟩) w3 := run_conv (P := Tryd.prog) Tryd.underlying32 Tryd.underlying5 Tryd.underlying9 c2 (R2.out.after b3)
      have f2 : (convert 32 9 (.slice A4 pl c4)).run Tryd.prog w3 = .ok (.string ⟨(bytesP (F.map EdX.d)).toArray⟩) w3 := run_conv (P := Tryd.prog) Tryd.underlying32 Tryd.underlying5 Tryd.underlying9 c4 (Rd.of_own o3)
      obtain ⟨S2, hS2⟩ : ∃ S : ByteArray, S = ⟨(bytesP (F.map EdX.d)).toArray⟩ := ⟨_, rfl⟩
      rw [← hS2] at f1 f2
      have KN := Lib.hid (knowsM_any w3 (HT.out.below HB2.out HTL.out))
      clear BR o3 b3 hS2
      go_wp2_with fail
      refine KN.out.mono ?_
      rintro e w8 ⟨rfl, b8⟩
      have HB := Lib.hid (belowGo HB2.out b8)
      clear KN b8 f1 f2
      go_wp2_with fail
      exact bodyPost_ret (results_tmp rfl _ _ _) rfl ⟨rfl, HB.out⟩
end Go.Proofs.YtmahadcohnhdkaaDoor
