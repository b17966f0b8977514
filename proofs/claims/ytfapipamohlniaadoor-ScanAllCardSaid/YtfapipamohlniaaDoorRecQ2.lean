/- The document's answer, chapter 08: Put. For every record. -/
import Derived.Test.YtfapipamohlniaaDoorRecQ1
import Derived.Test.YtfapipamohlniaaDoorCrcM
namespace Go.Proofs.YtfapipamohlniaaDoor
open Go.RowKit

set_option maxRecDepth 10000 in
set_option maxHeartbeats 2000000 in
theorem rputR_yes (q k : Nat) (a b : List UInt8) (A : Option Addr) (n c : Nat) (B : Option Addr) (m d : Nat) (s o : Nat) (w : World) (hm : mayR q (k : Int) n m s o = true)
    (ha : Rd w w.heap.size 1 A n (bcells a)) (hb : Rd w w.heap.size 1 B m (bcells b)) :
    Calls Tryd.prog 21 #[recV q (k : Int) (.slice A n c) (.slice B m d) s o] w (RetFixed w 5 (25 + n + m) (bcells (runR q k a b s o)) 0) := by
  have hla := ha.1
  have hlb := hb.1
  rw [bcells_len, Nat.mul_one] at hla hlb
  obtain ⟨h1, h2, h3, h4, h5, h6, h7, h8, h9⟩ := mayR_bounds hm
  have hk : 0 < k ∧ k ≤ 2 := by omega
  have HM := fun W => Lib.hid (rmayR_any q (k : Int) A n c B m d s o (by omega) (by omega) W)
  rw [hm] at HM
  have hrun : runR q k a b s o = coverC (coverC (partR (numsR q k n m s o) 6) ++ a ++ b) := by unfold runR headR; rw [hla, hlb]
  rw [hrun]
  have hp : ∀ j : Nat, partR (numsR q k n m s o) j ++ le (numR (numsR q k n m s o) j) (sizeC j) = partR (numsR q k n m s o) (j + 1) := fun j => (partR_succ _ _).symm
  have L0 := fun v W B0 hB0 h => Lib.hid (rlay_any (partR (numsR q k n m s o) 0) v 0 k 1 (by omega) (by omega) W B0 hB0 (by omega) h)
  rw [show partR (numsR q k n m s o) 0 ++ le k 1 = partR (numsR q k n m s o) 1 from hp 0] at L0
  have L1 := fun v W B0 hB0 h => Lib.hid (rlay_any (partR (numsR q k n m s o) 1) v 1 n 1 (by omega) (by omega) W B0 hB0 (by omega) h)
  rw [show partR (numsR q k n m s o) 1 ++ le n 1 = partR (numsR q k n m s o) 2 from hp 1] at L1
  have L2 := fun v W B0 hB0 h => Lib.hid (rlay_any (partR (numsR q k n m s o) 2) v 2 m 2 (by omega) (by omega) W B0 hB0 (by omega) h)
  rw [show partR (numsR q k n m s o) 2 ++ le m 2 = partR (numsR q k n m s o) 3 from hp 2] at L2
  have L3 := fun v W B0 hB0 h => Lib.hid (rlay_any (partR (numsR q k n m s o) 3) v 4 q 6 (by omega) (by omega) W B0 hB0 (by omega) h)
  rw [show partR (numsR q k n m s o) 3 ++ le q 6 = partR (numsR q k n m s o) 4 from hp 3] at L3
  have L4 := fun v W B0 hB0 h => Lib.hid (rlay_any (partR (numsR q k n m s o) 4) v 10 s 3 (by omega) (by omega) W B0 hB0 (by omega) h)
  rw [show partR (numsR q k n m s o) 4 ++ le s 3 = partR (numsR q k n m s o) 5 from hp 4] at L4
  have L5 := fun v W B0 hB0 h => Lib.hid (rlay_any (partR (numsR q k n m s o) 5) v 13 o 4 (by omega) (by omega) W B0 hB0 (by omega) h)
  rw [show partR (numsR q k n m s o) 5 ++ le o 4 = partR (numsR q k n m s o) 6 from hp 5] at L5
  have hpl : (partR (numsR q k n m s o) 6).length = 17 := partR_len _ 6 (by omega)
  have hp0 : partR (numsR q k n m s o) 0 = [] := rfl
  generalize numsR q k n m s o = L at *
  have HPL := Lib.hid hpl
  have HP0 := Lib.hid hp0
  clear hrun h7 h1 hp hpl hp0 hm
  unfold recV RetOwnB at *
  have q0 := Blk.new w 44 #[.int .u64 (q : Int), .int .i64 (k : Int), .slice A n c, .slice B m d, .int .u32 (s : Int), .int .u32 (o : Int)]
  have b0 := (Below.refl w.heap.size w).alloc (Nat.le_refl _) (.cells #[.int .u64 (q : Int), .int .i64 (k : Int), .slice A n c, .slice B m d, .int .u32 (s : Int), .int .u32 (o : Int)] 44)
  have ha := ha.allocs (.cells #[.int .u64 (q : Int), .int .i64 (k : Int), .slice A n c, .slice B m d, .int .u32 (s : Int), .int .u32 (o : Int)] 44)
  have hb := hb.allocs (.cells #[.int .u64 (q : Int), .int .i64 (k : Int), .slice A n c, .slice B m d, .int .u32 (s : Int), .int .u32 (o : Int)] 44)
  go_enter Tryd.func21, Tryd.ntmps21
  go_wp2_with fail
  refine (HM _).out.mono ?_
  rintro e w1 ⟨rfl, b1⟩
  clear HM
  have q1 := q0.after b1
  have ha := ha.after b1
  have hb := hb.after b1
  have bw := b0.trans (b1.mono b0.size)
  obtain ⟨g, hg⟩ : ∃ g, g = w.heap.size := ⟨_, rfl⟩
  rw [← hg] at q1 ⊢
  clear hg b1 b0 q0
  obtain ⟨B0, hB0⟩ : ∃ B0, B0 = w1.heap.size := ⟨_, rfl⟩
  have hgl : g < B0 := by rw [hB0]; exact q1.lt
  have ha : Rd w1 B0 1 A n (bcells a) := by rw [hB0]; exact ha
  have hb : Rd w1 B0 1 B m (bcells b) := by rw [hB0]; exact hb
  have hbw0 : w.heap.size ≤ B0 := by rw [hB0]; exact bw.size
  have hs : B0 ≤ w1.heap.size := by omega
  have o0 : w1.ownsRow B0 5 1 (.slice none 0 0) 0 (bcells (partR L 0)) := by rw [HP0.out]; exact World.ownsRow_nil _ _ _ _
  have bz : Below B0 w1 w1 := Below.refl _ _
  clear hB0 HP0
  have c1 := (q1.below bz hgl).cell 1
  go_wp2_with fail
  refine (L0 _ _ B0 hs o0).out.mono ?_
  rintro e x0 ⟨v1, rfl, o1, b, hs2⟩
  have bz := bz.trans b
  have hs : B0 ≤ x0.heap.size := by omega
  have o1 : x0.ownsRow B0 5 1 v1 1 (bcells (partR L 1)) := o1
  clear c1
  clear b hs2 L0 o0
  have c2 := (q1.below bz hgl).cell 2
  go_wp2_with fail
  refine (L1 _ _ B0 hs o1).out.mono ?_
  rintro e x1 ⟨v2, rfl, o2, b, hs2⟩
  have bz := bz.trans b
  have hs : B0 ≤ x1.heap.size := by omega
  have o2 : x1.ownsRow B0 5 1 v2 2 (bcells (partR L 2)) := o2
  clear c2
  clear b hs2 L1 o1
  have c3 := (q1.below bz hgl).cell 3
  go_wp2_with fail
  refine (L2 _ _ B0 hs o2).out.mono ?_
  rintro e x2 ⟨v3, rfl, o3, b, hs2⟩
  have bz := bz.trans b
  have hs : B0 ≤ x2.heap.size := by omega
  have o3 : x2.ownsRow B0 5 1 v3 4 (bcells (partR L 3)) := o3
  clear c3
  clear b hs2 L2 o2
  have c0 := (q1.below bz hgl).cell 0
  go_wp2_with fail
  refine (L3 _ _ B0 hs o3).out.mono ?_
  rintro e x3 ⟨v4, rfl, o4, b, hs2⟩
  have bz := bz.trans b
  have hs : B0 ≤ x3.heap.size := by omega
  have o4 : x3.ownsRow B0 5 1 v4 10 (bcells (partR L 4)) := o4
  clear c0
  clear b hs2 L3 o3
  have c4 := (q1.below bz hgl).cell 4
  go_wp2_with fail
  refine (L4 _ _ B0 hs o4).out.mono ?_
  rintro e x4 ⟨v5, rfl, o5, b, hs2⟩
  have bz := bz.trans b
  have hs : B0 ≤ x4.heap.size := by omega
  have o5 : x4.ownsRow B0 5 1 v5 13 (bcells (partR L 5)) := o5
  clear c4
  clear b hs2 L4 o4
  have c5 := (q1.below bz hgl).cell 5
  go_wp2_with fail
  refine (L5 _ _ B0 hs o5).out.mono ?_
  rintro e x5 ⟨v6, rfl, o6, b, hs2⟩
  have bz := bz.trans b
  have hs : B0 ≤ x5.heap.size := by omega
  have o6 : x5.ownsRow B0 5 1 v6 17 (bcells (partR L 6)) := o6
  clear c5
  clear b hs2 L5 o5
  obtain ⟨g6, c6, rfl, hc6, _⟩ := own_ptr o6 (by omega)
  have r6 := own_rd o6
  have HC := Lib.hid (rcover_any (partR L 6) (some ⟨g6, 0, none⟩) 17 c6 x5 (by omega) r6)
  have HC2 := fun l A n c W hn h => Lib.hid (rcover_any l A n c W hn h)
  have hcl : (coverC (partR L 6)).length = 21 := by rw [coverC_len, HPL.out]
  generalize partR L 6 = P6 at *
  have HCL := Lib.hid hcl
  clear hcl o6
  go_wp2_with fail
  refine HC.out.mono ?_
  rintro e y1 ⟨u1, rfl, p1, b⟩
  have p1 : y1.ownsRow x5.heap.size 5 1 u1 21 (bcells (coverC P6)) := p1
  have hs5 : B0 ≤ x5.heap.size := hs
  have hy : x5.heap.size ≤ y1.heap.size := b.size
  have bz := bz.trans (b.mono hs5)
  clear HC b
  have c2 := (q1.below bz hgl).cell 2
  go_upto_region 12 with (at_builtin; refine wpList_app eltU8 rfl (.tmp 43) (.tmp 45) rfl rfl p1 rfl (ha.below bz (Nat.le_refl _)) (bcells_one a) (by omega) (by unfold maxLen; omega) (Below.refl _ _) hy ?_; intro u2 y2 p2 b2 x1 x2; clear x1 x2)
  rw [← bcells_append] at p2
  have bz := bz.trans (b2.mono hs5)
  have hy2 : x5.heap.size ≤ y2.heap.size := Nat.le_trans hy b2.size
  clear c2 b2
  have c3 := (q1.below bz hgl).cell 3
  go_wp2_with (at_builtin; refine wpList_app eltU8 rfl (.tmp 47) (.tmp 49) rfl rfl p2 rfl (hb.below bz (Nat.le_refl _)) (bcells_one b) (by omega) (by unfold maxLen; omega) (Below.refl _ _) hy2 ?_; intro u3 y3 p3 b3 x1 x2; clear x1 x2)
  rw [← bcells_append] at p3
  have bz := bz.trans (b3.mono hs5)
  clear c3 b3
  obtain ⟨g8, c8, rfl, hc8, _⟩ := own_ptr p3 (by omega)
  have r8 := own_rd p3
  refine (HC2 _ _ _ _ _ (by omega) r8).out.mono ?_
  rintro e y4 ⟨u4, rfl, p4, b⟩
  have bw6 := bw.trans (bz.mono hbw0)
  have e7 : 21 + n + m + 4 = 25 + n + m := by omega
  rw [e7] at p4
  clear HC2
  go_wp2_with fail
  go_ret2
  exact ⟨_, rfl, own_low p4 bw6.size, bw6.trans (b.mono bw6.size)⟩

set_option maxRecDepth 10000 in
theorem rputR_no (q : Nat) (k : Int) (A : Option Addr) (n c : Nat) (B : Option Addr) (m d : Nat) (s o : Nat) (w : World) (hs : s < 4294967296) (ho : o < 4294967296) (hm : mayR q k n m s o = false) :
    Calls Tryd.prog 21 #[recV q k (.slice A n c) (.slice B m d) s o] w (RetFixed w 5 0 [] 1) := by
  have HM := fun W => Lib.hid (rmayR_any q k A n c B m d s o hs ho W)
  rw [hm] at HM
  clear hm
  unfold recV at *
  have b0 := (Below.refl w.heap.size w).alloc (Nat.le_refl _) (.cells #[.int .u64 (q : Int), .int .i64 k, .slice A n c, .slice B m d, .int .u32 (s : Int), .int .u32 (o : Int)] 44)
  go_enter Tryd.func21, Tryd.ntmps21
  go_wp2_with fail
  refine (HM _).out.mono ?_
  rintro e w1 ⟨rfl, b1⟩
  clear HM
  go_wp2_with fail
  go_ret2
  exact ⟨_, rfl, World.ownsRow_nil _ _ _ _, b0.trans (b1.mono b0.size)⟩
end Go.Proofs.YtfapipamohlniaaDoor
