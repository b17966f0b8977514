/- RecordPuts: true. No condition but the tables. -/
import Derived.Test.YtlnidmjnomoddaaDoorRecM
import Derived.Test.YtlnidmjnomoddaaDoorRecQ2
namespace Go.Proofs.YtlnidmjnomoddaaDoor
open Go.RowKit

theorem exec_eql_str {P : Program} {w : World} {t : TypeId} {p q : Operand} {x y : ByteArray} :
    (do eqGuard .eql t p q (.string x) (.string y); binOp .eql t (.string x) (.string y) : Sem Value).run P w = .ok (.bool (x.toList == y.toList)) w := by
  simp [eqGuard, binOp]
  rfl
theorem exec_eql_bool {P : Program} {w : World} {t : TypeId} {p q : Operand} {x y : Bool} (hu : P.underlying t = some .bool) :
    (do eqGuard .eql t p q (.bool x) (.bool y); binOp .eql t (.bool x) (.bool y) : Sem Value).run P w = .ok (.bool (x == y)) w := by
  have he : (Op.equal t (.bool x) (.bool y)).run P w = .ok (x == y) w := by
    show (Op.equalIn (9999 + 1) t _ _).run P w = _
    generalize 9999 = d
    simp [Op.equalIn, run_underlying hu]
  simp [eqGuard, binOp, he]
def putP (q : Nat) (k : Int) (a b : List UInt8) (s o : Nat) : List UInt8 := if mayR q k a.length b.length s o then runR q k.toNat a b s o else []
theorem putR_all (q : Nat) (k : Int) (a b : List UInt8) (A : Option Addr) (n c : Nat) (B : Option Addr) (m d : Nat) (s o : Nat) (w : World) (hT : TabR w) (ha : Rd w w.heap.size 1 A n (bcells a)) (hb : Rd w w.heap.size 1 B m (bcells b)) :
    Calls Tryd.prog 14 #[recV q k (.slice A n c) (.slice B m d) s o] w (RetFixed w 5 (putP q k a b s o).length (bcells (putP q k a b s o)) (if mayR q k n m s o then 0 else 1)) := by
  have hla := ha.1
  have hlb := hb.1
  have hma := ha.2.1
  unfold maxLen at hma
  rw [bcells_len, Nat.mul_one] at hla hlb
  unfold putP
  rw [hla, hlb]
  by_cases hm : mayR q k n m s o = true
  · obtain ⟨kn, rfl⟩ : ∃ kn : Nat, k = (kn : Int) := ⟨k.toNat, by have := mayR_bounds hm; omega⟩
    have h := putR_yes q kn a b A n c B m d s o w hT hm ha hb
    rw [hm, if_pos rfl, if_pos rfl, Int.toNat_natCast, runR_len, hla, hlb]
    exact h
  · have hm : mayR q k n m s o = false := by simpa using hm
    rw [hm]
    exact putR_no q k A n c B m d s o w (by omega) hm
theorem rputR_all (q : Nat) (k : Int) (a b : List UInt8) (A : Option Addr) (n c : Nat) (B : Option Addr) (m d : Nat) (s o : Nat) (hs : s < 4294967296) (ho : o < 4294967296) (w : World) (ha : Rd w w.heap.size 1 A n (bcells a)) (hb : Rd w w.heap.size 1 B m (bcells b)) :
    Calls Tryd.prog 15 #[recV q k (.slice A n c) (.slice B m d) s o] w (RetFixed w 5 (putP q k a b s o).length (bcells (putP q k a b s o)) (if mayR q k n m s o then 0 else 1)) := by
  have hla := ha.1
  have hlb := hb.1
  rw [bcells_len, Nat.mul_one] at hla hlb
  unfold putP
  rw [hla, hlb]
  by_cases hm : mayR q k n m s o = true
  · obtain ⟨kn, rfl⟩ : ∃ kn : Nat, k = (kn : Int) := ⟨k.toNat, by have := mayR_bounds hm; omega⟩
    have h := rputR_yes q kn a b A n c B m d s o w hm ha hb
    rw [hm, if_pos rfl, if_pos rfl, Int.toNat_natCast, runR_len, hla, hlb]
    exact h
  · have hm : mayR q k n m s o = false := by simpa using hm
    rw [hm]
    exact rputR_no q k A n c B m d s o w hs ho hm

set_option maxRecDepth 100000 in
set_option maxHeartbeats 8000000 in
theorem puts_walk (q : Nat) (k : Int) (a b : List UInt8) (A : Option Addr) (n c : Nat) (B : Option Addr) (m d : Nat) (s o : Nat) (q' : Nat) (k' : Int) (a' b' : List UInt8) (A' : Option Addr) (n' c' : Nat) (B' : Option Addr) (m' d' : Nat) (s' o' : Nat) (w : World) (hT : TabR w)
    (hnc : n ≤ c) (hmd : m ≤ d) (ha : Rd w w.heap.size 1 A n (bcells a)) (hb : Rd w w.heap.size 1 B m (bcells b)) (hs : s < 4294967296) (ho : o < 4294967296)
    (hnc' : n' ≤ c') (hmd' : m' ≤ d') (ha' : Rd w w.heap.size 1 A' n' (bcells a')) (hb' : Rd w w.heap.size 1 B' m' (bcells b')) :
    Calls Tryd.prog 4 #[recV q k (.slice A n c) (.slice B m d) s o, recV q' k' (.slice A' n' c') (.slice B' m' d') s' o'] w fun e w' => e = .returned (.bool true) ∧ Below w.heap.size w w' := by
  have HF1 := fun W hB0 r1 r2 => Lib.hid (few_any q k a b A n c B m d s o W hnc hmd w.heap.size hB0 r1 r2)
  have HF2 := fun W hB0 r1 r2 => Lib.hid (few_any q' k' a' b' A' n' c' B' m' d' s' o' W hnc' hmd' w.heap.size hB0 r1 r2)
  have hfew1 : (a.take 80).take 80 = a.take 80 := List.take_of_length_le (by rw [List.length_take]; omega)
  have hfew2 : (b.take 1100).take 1100 = b.take 1100 := List.take_of_length_le (by rw [List.length_take]; omega)
  have hl80 : (a.take 80).length ≤ 80 := by rw [List.length_take]; omega
  have hl11 : (b.take 1100).length ≤ 1100 := by rw [List.length_take]; omega
  generalize a.take 80 = a1 at *
  generalize b.take 1100 = b1 at *
  generalize a'.take 80 = a2 at *
  generalize b'.take 1100 = b2 at *
  have HF3 := fun A c B d hc hd W B0 hB0 r1 r2 => Lib.hid (few_any q k a1 b1 A a1.length c B b1.length d s o W hc hd B0 hB0 r1 r2)
  rw [hfew1, hfew2] at HF3
  unfold RetRecV recV at HF1 HF2 HF3
  obtain ⟨n1, hn1⟩ : ∃ n1, n1 = a1.length := ⟨_, rfl⟩
  obtain ⟨m1, hm1⟩ : ∃ m1, m1 = b1.length := ⟨_, rfl⟩
  obtain ⟨n2, hn2⟩ : ∃ n2, n2 = a2.length := ⟨_, rfl⟩
  obtain ⟨m2, hm2⟩ : ∃ m2, m2 = b2.length := ⟨_, rfl⟩
  rw [← hn1, ← hm1] at HF1 HF3
  rw [← hn2, ← hm2] at HF2
  have j1 : n1 ≤ 80 := by omega
  have j2 : m1 ≤ 1100 := by omega
  have HP1 := fun A c B d W hT' r1 r2 => Lib.hid (putR_all q k a1 b1 A n1 c B m1 d s o W hT' r1 r2)
  have HP2 := fun A c B d W r1 r2 => Lib.hid (rputR_all q k a1 b1 A n1 c B m1 d s o hs ho W r1 r2)
  have HM1 := fun A c B d W => Lib.hid (mayR_any q k A n1 c B m1 d s o W (by omega))
  have HM2 := fun A c B d W => Lib.hid (rmayR_any q k A n1 c B m1 d s o hs ho W)
  have HS1 := fun A c B d A' c' B' d' W h1 h2 h3 h4 => Lib.hid (sameR_any q k a1 b1 A n1 c B m1 d s o q' k' a2 b2 A' n2 c' B' m2 d' s' o' W h1 h2 h3 h4)
  have HS2 := fun A c B d A' c' B' d' W h1 h2 h3 h4 => Lib.hid (rsameR_any q k a1 b1 A n1 c B m1 d s o q' k' a2 b2 A' n2 c' B' m2 d' s' o' W h1 h2 h3 h4)
  have HS3 := fun A c B d A' c' B' d' W h1 h2 h3 h4 => Lib.hid (sameR_any q k a1 b1 A n1 c B m1 d s o q k a1 b1 A' n1 c' B' m1 d' s o W h1 h2 h3 h4)
  rw [show sameR q k a1 b1 s o q k a1 b1 s o = true by unfold sameR; simp] at HS3
  have HSz := fun A c B d W => Lib.hid (sizeR_any q k A n1 c B m1 d s o W (by omega) (by omega))
  generalize putP q k a1 b1 s o = P at *
  obtain ⟨cd, hcd⟩ : ∃ cd : Nat, cd = (if mayR q k n1 m1 s o then 0 else 1) := ⟨_, rfl⟩
  rw [← hcd] at HP1 HP2
  generalize mayR q k n1 m1 s o = my at *
  generalize sameR q k a1 b1 s o q' k' a2 b2 s' o' = sm at *
  obtain ⟨L, hL⟩ : ∃ L, L = 25 + n1 + m1 := ⟨_, rfl⟩
  rw [← hL] at HSz
  have hLi := Lib.hid (show (25 : Int) + (n1 : Int) + (m1 : Int) = (L : Int) by omega)
  generalize hPl : P.length = pl at *
  clear hPl hcd hn1 hm1 hn2 hm2 hfew1 hfew2 hl80 hl11 hL
  unfold recV at HP1 HP2 HM1 HM2 HS1 HS2 HS3 HSz
  unfold recV
  have q2 := (Blk.new w 28 #[.int .u64 (q : Int), .int .i64 k, .slice A n c, .slice B m d, .int .u32 (s : Int), .int .u32 (o : Int)]).alloc (.cells #[.int .u64 (q' : Int), .int .i64 k', .slice A' n' c', .slice B' m' d', .int .u32 (s' : Int), .int .u32 (o' : Int)] 28)
  have q3 := Blk.newAt (w.alloc (.cells #[.int .u64 (q : Int), .int .i64 k, .slice A n c, .slice B m d, .int .u32 (s : Int), .int .u32 (o : Int)] 28)) 28 #[.int .u64 (q' : Int), .int .i64 k', .slice A' n' c', .slice B' m' d', .int .u32 (s' : Int), .int .u32 (o' : Int)] (g := w.heap.size + 1) (by simp)
  have hbw := belowAlloc ((Below.refl w.heap.size w).alloc (Nat.le_refl _) (.cells #[.int .u64 (q : Int), .int .i64 k, .slice A n c, .slice B m d, .int .u32 (s : Int), .int .u32 (o : Int)] 28)) (.cells #[.int .u64 (q' : Int), .int .i64 k', .slice A' n' c', .slice B' m' d', .int .u32 (s' : Int), .int .u32 (o' : Int)] 28)
  go_enter Tryd.func4, Tryd.ntmps4
  go_wp2_with fail
  obtain ⟨g3, hg3⟩ : ∃ g, g = w.heap.size + 1 := ⟨_, rfl⟩
  have y3 : w.heap.size ≤ g3 := by omega
  have n23 : w.heap.size ≠ g3 := by omega
  generalize (w.alloc (.cells #[.int .u64 (q : Int), .int .i64 k, .slice A n c, .slice B m d, .int .u32 (s : Int), .int .u32 (o : Int)] 28)).alloc (.cells #[.int .u64 (q' : Int), .int .i64 k', .slice A' n' c', .slice B' m' d', .int .u32 (s' : Int), .int .u32 (o' : Int)] 28) = w0 at *
  rw [← hg3] at q3 ⊢
  clear hg3
  refine wp_region_plan (fun W => Blk W w.heap.size 28 #[.int .u64 (q : Int), .int .i64 k, .slice A n c, .slice B m d, .int .u32 (s : Int), .int .u32 (o : Int)] ∧ Blk W g3 28 #[.int .u64 (q' : Int), .int .i64 k', .slice A' n' c', .slice B' m' d', .int .u32 (s' : Int), .int .u32 (o' : Int)]) [.read 0, .read 2, .act 1, .act 3, .act 4, .act 5] (by kernel_rfl) (by rfl) (by kernel_rfl) (by kernel_rfl) ⟨q2, q3⟩ ?_
  have q2 : Blk w0.drew w.heap.size 28 #[.int .u64 (q : Int), .int .i64 k, .slice A n c, .slice B m d, .int .u32 (s : Int), .int .u32 (o : Int)] := q2
  have q3 : Blk w0.drew g3 28 #[.int .u64 (q' : Int), .int .i64 k', .slice A' n' c', .slice B' m' d', .int .u32 (s' : Int), .int .u32 (o' : Int)] := q3
  have hbw : Below w.heap.size w w0.drew := hbw.drew
  generalize w0.drew = wd at *
  refine plan_read (by rfl) (.agg #[.int .u64 (q : Int), .int .i64 k, .slice A n c, .slice B m d, .int .u32 (s : Int), .int .u32 (o : Int)]) (by rfl) (fun W hW => exec_load_blk rfl rfl hW.1 Tryd.underlying28 rfl (by kernel_rfl)) ?_
  refine plan_read (by rfl) (.agg #[.int .u64 (q' : Int), .int .i64 k', .slice A' n' c', .slice B' m' d', .int .u32 (s' : Int), .int .u32 (o' : Int)]) (by rfl) (fun W hW => exec_load_blk rfl rfl hW.2 Tryd.underlying28 rfl (by kernel_rfl)) ?_
  refine plan_act (by rfl) ?_
  go_wp2_with fail
  refine (HF1 _ hbw.size (ha.below hbw (Nat.le_refl _)) (hb.below hbw (Nat.le_refl _))).out.mono ?_
  rintro e w1 ⟨Af, cf, Bf, df, rfl, hcf, hdf, rf, rg, b⟩
  have z2 := q2.lt
  have z3 := q3.lt
  have q2 := q2.after b
  have q3 := q3.after b
  have hbw := hbw.trans (b.mono hbw.size)
  clear b HF1
  go_wp2_with fail
  refine ⟨⟨q2, q3⟩, plan_last (by rfl) (by kernel_rfl) ?_⟩
  go_wp2_with fail
  refine (HF2 _ hbw.size (ha'.below hbw (Nat.le_refl _)) (hb'.below hbw (Nat.le_refl _))).out.mono ?_
  rintro e w2 ⟨Ag, cg, Bg, dg, rfl, hcg, hdg, rh, ri, b⟩
  have y2 := q2.lt
  have y4 := q3.lt
  have q2 := q2.after b
  have q3 := q3.after b
  have rf := rf.after b
  have rg := rg.after b
  have hbw := hbw.trans (b.mono hbw.size)
  clear b HF2
  go_wp2_with fail
  have c0 := q2.cell 0
  have f0 := q2.frozen 0
  have c1 := q2.cell 1
  have f1 := q2.frozen 1
  have c2 := q2.cell 2
  have f2 := q2.frozen 2
  have c3 := q2.cell 3
  have f3 := q2.frozen 3
  have c4 := q2.cell 4
  have f4 := q2.frozen 4
  have c5 := q2.cell 5
  have f5 := q2.frozen 5
  refine plan_last (by rfl) (by kernel_rfl) ?_
  go_wp2_with fail
  clear c0 c1 c2 c3 c4 c5 f0 f1 f2 f3 f4 f5
  have q2 : Blk (World.setCell (World.setCell (World.setCell (World.setCell (World.setCell (World.setCell w2 ⟨w.heap.size, 0, none⟩ (.int .u64 (q : Int))) ⟨w.heap.size, 1, none⟩ (.int .i64 k)) ⟨w.heap.size, 2, none⟩ (.slice Af n1 cf)) ⟨w.heap.size, 3, none⟩ (.slice Bf m1 df)) ⟨w.heap.size, 4, none⟩ (.int .u32 (s : Int))) ⟨w.heap.size, 5, none⟩ (.int .u32 (o : Int))) (w.heap.size) 28 #[.int .u64 (q : Int), .int .i64 k, .slice Af n1 cf, .slice Bf m1 df, .int .u32 (s : Int), .int .u32 (o : Int)] := ((((((q2.set_ 0 (.int .u64 (q : Int))).set_ 1 (.int .i64 k)).set_ 2 (.slice Af n1 cf)).set_ 3 (.slice Bf m1 df)).set_ 4 (.int .u32 (s : Int))).set_ 5 (.int .u32 (o : Int)))
  have q3 := ((((((q3.far (p := ⟨w.heap.size, 0, none⟩) n23.symm (.int .u64 (q : Int))).far (p := ⟨w.heap.size, 1, none⟩) n23.symm (.int .i64 k)).far (p := ⟨w.heap.size, 2, none⟩) n23.symm (.slice Af n1 cf)).far (p := ⟨w.heap.size, 3, none⟩) n23.symm (.slice Bf m1 df)).far (p := ⟨w.heap.size, 4, none⟩) n23.symm (.int .u32 (s : Int))).far (p := ⟨w.heap.size, 5, none⟩) n23.symm (.int .u32 (o : Int)))
  have rf := ((((((rf.set_ (p := ⟨w.heap.size, 0, none⟩) (Nat.le_refl _) z2 (.int .u64 (q : Int))).set_ (p := ⟨w.heap.size, 1, none⟩) (Nat.le_refl _) z2 (.int .i64 k)).set_ (p := ⟨w.heap.size, 2, none⟩) (Nat.le_refl _) z2 (.slice Af n1 cf)).set_ (p := ⟨w.heap.size, 3, none⟩) (Nat.le_refl _) z2 (.slice Bf m1 df)).set_ (p := ⟨w.heap.size, 4, none⟩) (Nat.le_refl _) z2 (.int .u32 (s : Int))).set_ (p := ⟨w.heap.size, 5, none⟩) (Nat.le_refl _) z2 (.int .u32 (o : Int)))
  have rg := ((((((rg.set_ (p := ⟨w.heap.size, 0, none⟩) (Nat.le_refl _) z2 (.int .u64 (q : Int))).set_ (p := ⟨w.heap.size, 1, none⟩) (Nat.le_refl _) z2 (.int .i64 k)).set_ (p := ⟨w.heap.size, 2, none⟩) (Nat.le_refl _) z2 (.slice Af n1 cf)).set_ (p := ⟨w.heap.size, 3, none⟩) (Nat.le_refl _) z2 (.slice Bf m1 df)).set_ (p := ⟨w.heap.size, 4, none⟩) (Nat.le_refl _) z2 (.int .u32 (s : Int))).set_ (p := ⟨w.heap.size, 5, none⟩) (Nat.le_refl _) z2 (.int .u32 (o : Int)))
  have rh := ((((((rh.set_ (p := ⟨w.heap.size, 0, none⟩) (Nat.le_refl _) y2 (.int .u64 (q : Int))).set_ (p := ⟨w.heap.size, 1, none⟩) (Nat.le_refl _) y2 (.int .i64 k)).set_ (p := ⟨w.heap.size, 2, none⟩) (Nat.le_refl _) y2 (.slice Af n1 cf)).set_ (p := ⟨w.heap.size, 3, none⟩) (Nat.le_refl _) y2 (.slice Bf m1 df)).set_ (p := ⟨w.heap.size, 4, none⟩) (Nat.le_refl _) y2 (.int .u32 (s : Int))).set_ (p := ⟨w.heap.size, 5, none⟩) (Nat.le_refl _) y2 (.int .u32 (o : Int)))
  have ri := ((((((ri.set_ (p := ⟨w.heap.size, 0, none⟩) (Nat.le_refl _) y2 (.int .u64 (q : Int))).set_ (p := ⟨w.heap.size, 1, none⟩) (Nat.le_refl _) y2 (.int .i64 k)).set_ (p := ⟨w.heap.size, 2, none⟩) (Nat.le_refl _) y2 (.slice Af n1 cf)).set_ (p := ⟨w.heap.size, 3, none⟩) (Nat.le_refl _) y2 (.slice Bf m1 df)).set_ (p := ⟨w.heap.size, 4, none⟩) (Nat.le_refl _) y2 (.int .u32 (s : Int))).set_ (p := ⟨w.heap.size, 5, none⟩) (Nat.le_refl _) y2 (.int .u32 (o : Int)))
  have hbw := ((((((hbw.setCell (p := ⟨w.heap.size, 0, none⟩) (Nat.le_refl _) (.int .u64 (q : Int))).setCell (p := ⟨w.heap.size, 1, none⟩) (Nat.le_refl _) (.int .i64 k)).setCell (p := ⟨w.heap.size, 2, none⟩) (Nat.le_refl _) (.slice Af n1 cf)).setCell (p := ⟨w.heap.size, 3, none⟩) (Nat.le_refl _) (.slice Bf m1 df)).setCell (p := ⟨w.heap.size, 4, none⟩) (Nat.le_refl _) (.int .u32 (s : Int))).setCell (p := ⟨w.heap.size, 5, none⟩) (Nat.le_refl _) (.int .u32 (o : Int)))
  generalize (World.setCell (World.setCell (World.setCell (World.setCell (World.setCell (World.setCell w2 ⟨w.heap.size, 0, none⟩ (.int .u64 (q : Int))) ⟨w.heap.size, 1, none⟩ (.int .i64 k)) ⟨w.heap.size, 2, none⟩ (.slice Af n1 cf)) ⟨w.heap.size, 3, none⟩ (.slice Bf m1 df)) ⟨w.heap.size, 4, none⟩ (.int .u32 (s : Int))) ⟨w.heap.size, 5, none⟩ (.int .u32 (o : Int))) = w3 at *
  have c0 := q3.cell 0
  have f0 := q3.frozen 0
  have c1 := q3.cell 1
  have f1 := q3.frozen 1
  have c2 := q3.cell 2
  have f2 := q3.frozen 2
  have c3 := q3.cell 3
  have f3 := q3.frozen 3
  have c4 := q3.cell 4
  have f4 := q3.frozen 4
  have c5 := q3.cell 5
  have f5 := q3.frozen 5
  refine plan_last (by rfl) (by kernel_rfl) ?_
  go_wp2_with fail
  clear c0 c1 c2 c3 c4 c5 f0 f1 f2 f3 f4 f5
  have q3 : Blk (World.setCell (World.setCell (World.setCell (World.setCell (World.setCell (World.setCell w3 ⟨g3, 0, none⟩ (.int .u64 (q' : Int))) ⟨g3, 1, none⟩ (.int .i64 k')) ⟨g3, 2, none⟩ (.slice Ag n2 cg)) ⟨g3, 3, none⟩ (.slice Bg m2 dg)) ⟨g3, 4, none⟩ (.int .u32 (s' : Int))) ⟨g3, 5, none⟩ (.int .u32 (o' : Int))) (g3) 28 #[.int .u64 (q' : Int), .int .i64 k', .slice Ag n2 cg, .slice Bg m2 dg, .int .u32 (s' : Int), .int .u32 (o' : Int)] := ((((((q3.set_ 0 (.int .u64 (q' : Int))).set_ 1 (.int .i64 k')).set_ 2 (.slice Ag n2 cg)).set_ 3 (.slice Bg m2 dg)).set_ 4 (.int .u32 (s' : Int))).set_ 5 (.int .u32 (o' : Int)))
  have q2 := ((((((q2.far (p := ⟨g3, 0, none⟩) n23 (.int .u64 (q' : Int))).far (p := ⟨g3, 1, none⟩) n23 (.int .i64 k')).far (p := ⟨g3, 2, none⟩) n23 (.slice Ag n2 cg)).far (p := ⟨g3, 3, none⟩) n23 (.slice Bg m2 dg)).far (p := ⟨g3, 4, none⟩) n23 (.int .u32 (s' : Int))).far (p := ⟨g3, 5, none⟩) n23 (.int .u32 (o' : Int)))
  have rf := ((((((rf.set_ (p := ⟨g3, 0, none⟩) y3 z3 (.int .u64 (q' : Int))).set_ (p := ⟨g3, 1, none⟩) y3 z3 (.int .i64 k')).set_ (p := ⟨g3, 2, none⟩) y3 z3 (.slice Ag n2 cg)).set_ (p := ⟨g3, 3, none⟩) y3 z3 (.slice Bg m2 dg)).set_ (p := ⟨g3, 4, none⟩) y3 z3 (.int .u32 (s' : Int))).set_ (p := ⟨g3, 5, none⟩) y3 z3 (.int .u32 (o' : Int)))
  have rg := ((((((rg.set_ (p := ⟨g3, 0, none⟩) y3 z3 (.int .u64 (q' : Int))).set_ (p := ⟨g3, 1, none⟩) y3 z3 (.int .i64 k')).set_ (p := ⟨g3, 2, none⟩) y3 z3 (.slice Ag n2 cg)).set_ (p := ⟨g3, 3, none⟩) y3 z3 (.slice Bg m2 dg)).set_ (p := ⟨g3, 4, none⟩) y3 z3 (.int .u32 (s' : Int))).set_ (p := ⟨g3, 5, none⟩) y3 z3 (.int .u32 (o' : Int)))
  have rh := ((((((rh.set_ (p := ⟨g3, 0, none⟩) y3 y4 (.int .u64 (q' : Int))).set_ (p := ⟨g3, 1, none⟩) y3 y4 (.int .i64 k')).set_ (p := ⟨g3, 2, none⟩) y3 y4 (.slice Ag n2 cg)).set_ (p := ⟨g3, 3, none⟩) y3 y4 (.slice Bg m2 dg)).set_ (p := ⟨g3, 4, none⟩) y3 y4 (.int .u32 (s' : Int))).set_ (p := ⟨g3, 5, none⟩) y3 y4 (.int .u32 (o' : Int)))
  have ri := ((((((ri.set_ (p := ⟨g3, 0, none⟩) y3 y4 (.int .u64 (q' : Int))).set_ (p := ⟨g3, 1, none⟩) y3 y4 (.int .i64 k')).set_ (p := ⟨g3, 2, none⟩) y3 y4 (.slice Ag n2 cg)).set_ (p := ⟨g3, 3, none⟩) y3 y4 (.slice Bg m2 dg)).set_ (p := ⟨g3, 4, none⟩) y3 y4 (.int .u32 (s' : Int))).set_ (p := ⟨g3, 5, none⟩) y3 y4 (.int .u32 (o' : Int)))
  have hbw := ((((((hbw.setCell (p := ⟨g3, 0, none⟩) y3 (.int .u64 (q' : Int))).setCell (p := ⟨g3, 1, none⟩) y3 (.int .i64 k')).setCell (p := ⟨g3, 2, none⟩) y3 (.slice Ag n2 cg)).setCell (p := ⟨g3, 3, none⟩) y3 (.slice Bg m2 dg)).setCell (p := ⟨g3, 4, none⟩) y3 (.int .u32 (s' : Int))).setCell (p := ⟨g3, 5, none⟩) y3 (.int .u32 (o' : Int)))
  generalize (World.setCell (World.setCell (World.setCell (World.setCell (World.setCell (World.setCell w3 ⟨g3, 0, none⟩ (.int .u64 (q' : Int))) ⟨g3, 1, none⟩ (.int .i64 k')) ⟨g3, 2, none⟩ (.slice Ag n2 cg)) ⟨g3, 3, none⟩ (.slice Bg m2 dg)) ⟨g3, 4, none⟩ (.int .u32 (s' : Int))) ⟨g3, 5, none⟩ (.int .u32 (o' : Int))) = w4 at *
  have rf := rf.1
  have rg := rg.1
  have rh := rh.1
  have ri := ri.1
  have hT0 := Lib.hid hT
  have hT := hT.below hbw hT.1.1 hT.2.1
  refine plan_end ?_
  have cc0 := q2.cell 0
  have cc1 := q2.cell 1
  have cc2 := q2.cell 2
  have cc3 := q2.cell 3
  have cc4 := q2.cell 4
  have cc5 := q2.cell 5
  go_wp2_with fail
  refine (HP1 _ _ _ _ _ hT rf rg).out.mono ?_
  rintro e w5 ⟨v5, rfl, o5, b⟩
  obtain ⟨A5, c5, rfl, _⟩ := own_cap o5
  have r5 := own_rd o5
  clear HP1 o5
  clear cc0 cc1 cc2 cc3 cc4 cc5
  have q2 := q2.after b
  have q3 := q3.after b
  have rf := rf.after b
  have rg := rg.after b
  have rh := rh.after b
  have ri := ri.after b
  have hT := hT.after b
  have hbw := hbw.trans (b.mono hbw.size)
  clear b
  have cc0 := q2.cell 0
  have cc1 := q2.cell 1
  have cc2 := q2.cell 2
  have cc3 := q2.cell 3
  have cc4 := q2.cell 4
  have cc5 := q2.cell 5
  go_wp2_with fail
  refine (HP2 _ _ _ _ _ rf rg).out.mono ?_
  rintro e w6 ⟨v6, rfl, o6, b⟩
  obtain ⟨A6, c6, rfl, _⟩ := own_cap o6
  have r6 := own_rd o6
  clear HP2 o6
  clear cc0 cc1 cc2 cc3 cc4 cc5
  have q2 := q2.after b
  have q3 := q3.after b
  have rf := rf.after b
  have rg := rg.after b
  have rh := rh.after b
  have ri := ri.after b
  have hT := hT.after b
  have r5 := r5.after b
  have hbw := hbw.trans (b.mono hbw.size)
  clear b
  go_wp2_with fail
  have hcur : Below w6.heap.size w6 w6.drew := ⟨rfl, rfl, rfl, Nat.le_refl _, fun _ _ => rfl⟩
  refine wp_region_plan (fun W => Below w6.heap.size w6 W) [.calms [0, 2], .read 1, .read 3, .read 4, .calms [5, 6, 7, 8, 9, 10], .read 11, .read 13, .act 12, .act 14, .read 15, .calms [16, 17], .read 18, .read 19, .read 21, .read 22, .act 20, .act 23, .read 24, .calms [25, 26], .read 27, .read 28, .act 29, .act 30, .calms [31, 32, 35, 39], .read 33, .read 36, .read 40, .calms [37, 38, 41, 42], .act 34, .calms [43, 44, 45], .act 46, .calms [47, 48]] (by kernel_rfl) (by rfl) (by kernel_rfl) (by kernel_rfl) hcur ?_
  generalize w6.drew = wc at *
  refine plan_calms (by simp [calmRow, need]; rfl) ?_
  go_wp2_with fail
  refine plan_read (by rfl) (.string ⟨P.toArray⟩) (by rfl) (fun W hW => exec_conv rfl rfl (run_conv (P := Tryd.prog) Tryd.underlying22 Tryd.underlying5 Tryd.underlying9 _ (r5.after hW))) ?_
  refine plan_read (by rfl) (.string ⟨P.toArray⟩) (by rfl) (fun W hW => exec_conv rfl rfl (run_conv (P := Tryd.prog) Tryd.underlying22 Tryd.underlying5 Tryd.underlying9 _ (r6.after hW))) ?_
  refine plan_read (by rfl) (.bool true) (by rfl) (fun W hW => exec_bin rfl (by have := exec_eql_str (P := Tryd.prog) (w := W) (t := 9) (p := .tmp 24) (q := .tmp 26) (x := ⟨P.toArray⟩) (y := ⟨P.toArray⟩); rw [beq_self_eq_true] at this; exact this)) ?_
  refine plan_calms (by simp [calmRow, need, chk]; rfl) ?_
  go_wp2_with fail
  refine plan_read (by rfl) (.agg #[.int .u64 (q : Int), .int .i64 k, .slice Af n1 cf, .slice Bf m1 df, .int .u32 (s : Int), .int .u32 (o : Int)]) (by rfl) (fun W hW => exec_load_blk rfl rfl (q2.after hW) Tryd.underlying28 rfl (by kernel_rfl)) ?_
  refine plan_read (by rfl) (.agg #[.int .u64 (q : Int), .int .i64 k, .slice Af n1 cf, .slice Bf m1 df, .int .u32 (s : Int), .int .u32 (o : Int)]) (by rfl) (fun W hW => exec_load_blk rfl rfl (q2.after hW) Tryd.underlying28 rfl (by kernel_rfl)) ?_
  refine plan_act (by rfl) ?_
  go_wp2_with fail
  refine (HM1 _ _ _ _ _).out.mono ?_
  rintro e e1 ⟨rfl, b⟩
  have hcur := belowGo hcur b
  clear b
  go_wp2_with fail
  refine ⟨hcur, plan_act (by rfl) ?_⟩
  go_wp2_with fail
  refine (HM2 _ _ _ _ _).out.mono ?_
  rintro e e2 ⟨rfl, b⟩
  have hcur := belowGo hcur b
  clear b
  go_wp2_with fail
  refine ⟨hcur, plan_read (by rfl) (.bool true) (by rfl) (fun W hW => exec_bin rfl (by have := exec_eql_bool (P := Tryd.prog) (w := W) (t := 4) (p := .tmp 35) (q := .tmp 37) (x := my) (y := my) Tryd.underlying4; rw [beq_self_eq_true] at this; exact this)) ?_⟩
  refine plan_calms (by simp [calmRow, need]; rfl) ?_
  go_wp2_with fail
  refine plan_read (by rfl) (.agg #[.int .u64 (q : Int), .int .i64 k, .slice Af n1 cf, .slice Bf m1 df, .int .u32 (s : Int), .int .u32 (o : Int)]) (by rfl) (fun W hW => exec_load_blk rfl rfl (q2.after hW) Tryd.underlying28 rfl (by kernel_rfl)) ?_
  refine plan_read (by rfl) (.agg #[.int .u64 (q' : Int), .int .i64 k', .slice Ag n2 cg, .slice Bg m2 dg, .int .u32 (s' : Int), .int .u32 (o' : Int)]) (by rfl) (fun W hW => exec_load_blk rfl rfl (q3.after hW) Tryd.underlying28 rfl (by kernel_rfl)) ?_
  refine plan_read (by rfl) (.agg #[.int .u64 (q : Int), .int .i64 k, .slice Af n1 cf, .slice Bf m1 df, .int .u32 (s : Int), .int .u32 (o : Int)]) (by rfl) (fun W hW => exec_load_blk rfl rfl (q2.after hW) Tryd.underlying28 rfl (by kernel_rfl)) ?_
  refine plan_read (by rfl) (.agg #[.int .u64 (q' : Int), .int .i64 k', .slice Ag n2 cg, .slice Bg m2 dg, .int .u32 (s' : Int), .int .u32 (o' : Int)]) (by rfl) (fun W hW => exec_load_blk rfl rfl (q3.after hW) Tryd.underlying28 rfl (by kernel_rfl)) ?_
  refine plan_act (by rfl) ?_
  go_wp2_with fail
  refine (HS1 _ _ _ _ _ _ _ _ _ (rf.after hcur) (rg.after hcur) (rh.after hcur) (ri.after hcur)).out.mono ?_
  rintro e e3 ⟨rfl, b⟩
  have hcur := belowGo hcur b
  clear b
  go_wp2_with fail
  refine ⟨hcur, plan_act (by rfl) ?_⟩
  go_wp2_with fail
  refine (HS2 _ _ _ _ _ _ _ _ _ (rf.after hcur) (rg.after hcur) (rh.after hcur) (ri.after hcur)).out.mono ?_
  rintro e e4 ⟨rfl, b⟩
  have hcur := belowGo hcur b
  clear b
  go_wp2_with fail
  refine ⟨hcur, plan_read (by rfl) (.bool true) (by rfl) (fun W hW => exec_bin rfl (by have := exec_eql_bool (P := Tryd.prog) (w := W) (t := 4) (p := .tmp 43) (q := .tmp 46) (x := sm) (y := sm) Tryd.underlying4; rw [beq_self_eq_true] at this; exact this)) ?_⟩
  refine plan_calms (by simp [calmRow, need]; rfl) ?_
  go_wp2_with fail
  refine plan_read (by rfl) (.agg #[.int .u64 (q : Int), .int .i64 k, .slice Af n1 cf, .slice Bf m1 df, .int .u32 (s : Int), .int .u32 (o : Int)]) (by rfl) (fun W hW => exec_load_blk rfl rfl (q2.after hW) Tryd.underlying28 rfl (by kernel_rfl)) ?_
  refine plan_read (by rfl) (.agg #[.int .u64 (q : Int), .int .i64 k, .slice Af n1 cf, .slice Bf m1 df, .int .u32 (s : Int), .int .u32 (o : Int)]) (by rfl) (fun W hW => exec_load_blk rfl rfl (q2.after hW) Tryd.underlying28 rfl (by kernel_rfl)) ?_
  have hbc := hbw.trans (hcur.mono hbw.size)
  refine plan_act (by rfl) ?_
  go_wp2_with fail
  refine (HF3 _ _ _ _ hcf hdf _ _ (Nat.le_refl _) (rf.after hcur) (rg.after hcur)).out.mono ?_
  rintro e e5 ⟨Ax, cx, Bx, dx, rfl, hcx, hdx, rx, ry, b⟩
  have hcur := belowGo hcur b
  clear b hbc
  go_wp2_with fail
  refine ⟨hcur, plan_act (by rfl) ?_⟩
  go_wp2_with fail
  refine (HS3 _ _ _ _ _ _ _ _ _ (rf.after hcur) (rg.after hcur) rx.1 ry.1).out.mono ?_
  rintro e e6 ⟨rfl, b⟩
  have hcur := belowGo hcur b
  clear b
  go_wp2_with fail
  refine ⟨hcur, plan_calms (by simp [calmRow, need]; rfl) ?_⟩
  go_wp2_with fail
  refine plan_read (by rfl) (.agg #[.int .u64 (q : Int), .int .i64 k, .slice Af n1 cf, .slice Bf m1 df, .int .u32 (s : Int), .int .u32 (o : Int)]) (by rfl) (fun W hW => exec_load_blk rfl rfl (q2.after hW) Tryd.underlying28 rfl (by kernel_rfl)) ?_
  refine plan_read (by rfl) (.slice Af n1 cf) (by rfl) (fun W hW => exec_load rfl rfl (by kernel_rfl) ((q2.after hW).cell 2)) ?_
  refine plan_read (by rfl) (.slice Bf m1 df) (by rfl) (fun W hW => exec_load rfl rfl (by kernel_rfl) ((q2.after hW).cell 3)) ?_
  have hLo := hLi.out
  refine plan_calms (by simp [calmRow, need, chk]; rfl) ?_
  go_wp2_with fail
  refine plan_act (by rfl) ?_
  go_wp2_with fail
  refine (HSz _ _ _ _ _).out.mono ?_
  rintro e e7 ⟨rfl, b⟩
  have hcur := belowGo hcur b
  clear b
  go_wp2_with fail
  refine ⟨hcur, plan_calms (by simp [calmRow, need, chk]; rfl) ?_⟩
  go_wp2_with fail
  refine plan_act (by rfl) ?_
  go_wp2_with fail
  refine (knows_any _ (hT.after hcur)).mono ?_
  rintro e e8 ⟨rfl, b⟩
  have hcur := belowGo hcur b
  clear b
  go_wp2_with fail
  refine ⟨hcur, plan_calms (by simp [calmRow, need]; rfl) ?_⟩
  go_wp2_with fail
  refine plan_end ?_
  go_wp2_with fail
  go_ret
  exact ⟨rfl, hbw.trans (hcur.mono hbw.size)⟩
end Go.Proofs.YtlnidmjnomoddaaDoor
