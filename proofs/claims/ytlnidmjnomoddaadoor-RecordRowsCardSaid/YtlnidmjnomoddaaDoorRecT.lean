/- RecordTorn: true. No condition but the tables. -/
import Derived.Test.YtlnidmjnomoddaaDoorRecM
namespace Go.Proofs.YtlnidmjnomoddaaDoor
open Go.RowKit

def RetRec2 (q k : Nat) (a b : List UInt8) (s o z : Nat) (w : World) (e : Ending) (w' : World) : Prop := ∃ gK gV, e = .returned (.tuple #[recV q (k : Int) (.slice (some ⟨gK, 0, none⟩) a.length a.length) (.slice (some ⟨gV, 0, none⟩) b.length b.length) s o, .int .i64 (z : Int), .int .i64 0]) ∧
  Rd w' w'.heap.size 1 (some ⟨gK, 0, none⟩) a.length (bcells a) ∧ Rd w' w'.heap.size 1 (some ⟨gV, 0, none⟩) b.length (bcells b) ∧ w.heap.size ≤ gK ∧ w.heap.size ≤ gV ∧ Below w.heap.size w w'
theorem getR_run2 (l : List UInt8) (A : Option Addr) (n c : Nat) (w : World) (hT : TabR w) (hnc : n ≤ c) (h : Rd w w.heap.size 1 A n (bcells l)) (q k : Nat) (a b : List UInt8) (s o z : Nat) (r : List UInt8) (hm : mayR q (k : Int) a.length b.length s o = true) (hl : l = runR q k a b s o ++ r) (hz : z = 25 + a.length + b.length) :
    Calls Tryd.prog 9 #[.slice A n c] w (RetRec2 q k a b s o z w) := by
  refine (getR_any l A n c w hT hnc h).mono ?_
  have hS := getS_run hm r
  obtain ⟨t1, t2, t3, t4, t5, t6, t7, t8⟩ := told_run hm r
  have hbd := mayR_bounds hm
  rw [← hl] at hS t1 t2 t3 t4 t5 t6 t7 t8
  subst hz
  rintro e w' ⟨h1 | h1, hb⟩
  · rw [hS] at h1
    exact absurd rfl h1.1
  · obtain ⟨_, gK, gV, he, q1, q2, _, l1, l2⟩ := h1
    rw [t1] at q1
    rw [t2] at q2
    rw [t3, t4, t5, t6, t7, t8, hS] at he
    exact ⟨gK, gV, he, (q1.rd (n := a.length) (size := 1) (by simp [bcells_len]) (by unfold maxLen; omega)), (q2.rd (n := b.length) (size := 1) (by simp [bcells_len]) (by unfold maxLen; omega)), l1, l2, hb⟩
def RT (w5 : World) (sq kd nk nv sg of L : Nat) (ka vb : List UInt8) (v9 v10 v11 : Value) (wx : World) : Prop := ∃ g9 gK gV, v9 = .pointer (some ⟨g9, 0, none⟩) ∧ Blk wx g9 28 #[.int .u64 (sq : Int), .int .i64 (kd : Int), .slice (some ⟨gK, 0, none⟩) nk nk, .slice (some ⟨gV, 0, none⟩) nv nv, .int .u32 (sg : Int), .int .u32 (of : Int)] ∧ Rd wx wx.heap.size 1 (some ⟨gK, 0, none⟩) nk (bcells ka) ∧ Rd wx wx.heap.size 1 (some ⟨gV, 0, none⟩) nv (bcells vb) ∧ v10 = .int .i64 (L : Int) ∧ v11 = .int .i64 0 ∧ Below w5.heap.size w5 wx

set_option maxRecDepth 100000 in
set_option maxHeartbeats 8000000 in
theorem torn_walk (q : Nat) (k : Int) (a b : List UInt8) (A : Option Addr) (n c : Nat) (B : Option Addr) (m d : Nat) (s o : Nat) (l : List UInt8) (Al : Option Addr) (nl cl : Nat) (q' : Nat) (k' : Int) (a' b' : List UInt8) (A' : Option Addr) (n' c' : Nat) (B' : Option Addr) (m' d' : Nat) (s' o' : Nat) (w : World) (hT : TabR w)
    (hnc : n ≤ c) (hmd : m ≤ d) (ha : Rd w w.heap.size 1 A n (bcells a)) (hb : Rd w w.heap.size 1 B m (bcells b)) (hq : q < 18446744073709551616) (hs : s < 4294967296) (ho : o < 4294967296)
    (hlc : nl ≤ cl) (hl : Rd w w.heap.size 1 Al nl (bcells l))
    (hnc' : n' ≤ c') (hmd' : m' ≤ d') (ha' : Rd w w.heap.size 1 A' n' (bcells a')) (hb' : Rd w w.heap.size 1 B' m' (bcells b')) :
    Calls Tryd.prog 5 #[recV q k (.slice A n c) (.slice B m d) s o, .slice Al nl cl, recV q' k' (.slice A' n' c') (.slice B' m' d') s' o'] w fun e w' => e = .returned (.bool true) ∧ Below w.heap.size w w' := by
  have hll := hl.1
  have hml := hl.2.1
  unfold maxLen at hml
  rw [bcells_len, Nat.mul_one] at hll
  obtain ⟨x, hx⟩ : ∃ x, x = min nl 100 := ⟨_, rfl⟩
  have hMx : min (nl : Int) 100 = (x : Int) := by omega
  have hxl : x ≤ nl := by omega
  have hx100 : x ≤ 100 := by omega
  have hxc : (x : Int) ≤ (cl : Int) := by omega
  have hxc2 : x ≤ cl := by omega
  clear hx hll
  have hT0 := Lib.hid hT
  have hm := made_may q k a b s o
  have HMd := fun W hB0 r1 r2 => Lib.hid (made_any q k a b A n c B m d s o W hnc hmd w.heap.size hB0 r1 r2 hq hs ho)
  have HFw := fun W hB0 r1 r2 => Lib.hid (few_any q' k' a' b' A' n' c' B' m' d' s' o' W hnc' hmd' w.heap.size hB0 r1 r2)
  unfold recV at HMd HFw
  generalize seqM q = sq at *
  generalize kindM k = kd at *
  generalize segM s = sg at *
  generalize offM s o = of at *
  generalize keyM a = ka at *
  generalize valM k b = vb at *
  generalize a'.take 80 = a1 at *
  generalize b'.take 1100 = b1 at *
  unfold RetRecV recV at HMd HFw
  obtain ⟨nk, hnk⟩ : ∃ nk, nk = ka.length := ⟨_, rfl⟩
  obtain ⟨nv, hnv⟩ : ∃ nv, nv = vb.length := ⟨_, rfl⟩
  obtain ⟨n1, hn1⟩ : ∃ n1, n1 = a1.length := ⟨_, rfl⟩
  obtain ⟨m1, hm1⟩ : ∃ m1, m1 = b1.length := ⟨_, rfl⟩
  rw [← hnk, ← hnv] at HMd hm
  rw [← hn1, ← hm1] at HFw
  obtain ⟨L, hL⟩ : ∃ L, L = 25 + nk + nv := ⟨_, rfl⟩
  obtain ⟨z1, z2, z3, z4, z5, z6, _⟩ := mayR_bounds hm
  have hL1 : L ≤ 1113 := by omega
  have hL2 : 26 ≤ L := by omega
  obtain ⟨R, hR⟩ : ∃ R, R = runR sq kd ka vb sg of := ⟨_, rfl⟩
  have hRl : R.length = L := by rw [hR, runR_len, ← hnk, ← hnv, hL]
  have HPt := fun A c B d W hT' r1 r2 => Lib.hid (putR_yes sq kd ka vb A nk c B nv d sg of W hT' hm r1 r2)
  rw [← hR, ← hL] at HPt
  have HSz := fun A c B d W => Lib.hid (sizeR_any sq (kd : Int) A nk c B nv d sg of W (by omega) (by omega))
  rw [← hL] at HSz
  have HMy := fun A c B d W => Lib.hid (mayR_any sq (kd : Int) A nk c B nv d sg of W (by omega))
  rw [hm] at HMy
  have HGt := fun A n c W hT' hnc' r => Lib.hid (getR_run2 (R ++ l.take x) A n c W hT' hnc' r sq kd ka vb sg of L (l.take x) (by rw [← hnk, ← hnv]; exact hm) (by rw [hR]) (by rw [← hnk, ← hnv]; exact hL))
  unfold RetRec2 at HGt
  rw [← hnk, ← hnv] at HGt
  have HSm := fun A n c B m d A' n' c' B' m' d' W h1 h2 h3 h4 => Lib.hid (sameR_any sq (kd : Int) ka vb A n c B m d sg of sq (kd : Int) ka vb A' n' c' B' m' d' sg of W h1 h2 h3 h4)
  rw [show sameR sq (kd : Int) ka vb sg of sq (kd : Int) ka vb sg of = true by unfold sameR; simp] at HSm
  have HS0 := fun W => Lib.hid (sameR_any 0 0 [] [] none 0 0 none 0 0 0 0 0 0 [] [] none 0 0 none 0 0 0 0 W (Rd.nil_ _ _ _ _) (Rd.nil_ _ _ _ _) (Rd.nil_ _ _ _ _) (Rd.nil_ _ _ _ _))
  rw [show sameR 0 0 [] [] 0 0 0 0 [] [] 0 0 = true by decide] at HS0
  have HTn := fun (j : Nat) (hj : j < L) A c W hT' hnc' r => Lib.hid (getR_none (R.take j) A j c W hT' hnc' r 0 22 (by rw [hR]; exact getS_torn (by rw [← hnk, ← hnv]; exact hm) (by rw [← hnk, ← hnv]; omega)) (by decide))
  unfold RetNone at HTn
  unfold recV at HPt HSz HMy HGt HSm HS0 HTn
  have HRL := Lib.hid hRl
  have HNK := Lib.hid hnk
  have HNV := Lib.hid hnv
  have HN1 := Lib.hid hn1
  have HM1 := Lib.hid hm1
  clear hRl hnk hnv hn1 hm1 hL hR hm z1 z2 z3 z4 z5 z6
  unfold recV
  have q3 := (Blk.new w 28 #[.int .u64 (q : Int), .int .i64 k, .slice A n c, .slice B m d, .int .u32 (s : Int), .int .u32 (o : Int)]).alloc (.cells #[.int .u64 (q' : Int), .int .i64 k', .slice A' n' c', .slice B' m' d', .int .u32 (s' : Int), .int .u32 (o' : Int)] 28)
  have q5 := Blk.newAt (w.alloc (.cells #[.int .u64 (q : Int), .int .i64 k, .slice A n c, .slice B m d, .int .u32 (s : Int), .int .u32 (o : Int)] 28)) 28 #[.int .u64 (q' : Int), .int .i64 k', .slice A' n' c', .slice B' m' d', .int .u32 (s' : Int), .int .u32 (o' : Int)] (g := w.heap.size + 1) (by simp)
  have hbw := belowAlloc ((Below.refl w.heap.size w).alloc (Nat.le_refl _) (.cells #[.int .u64 (q : Int), .int .i64 k, .slice A n c, .slice B m d, .int .u32 (s : Int), .int .u32 (o : Int)] 28)) (.cells #[.int .u64 (q' : Int), .int .i64 k', .slice A' n' c', .slice B' m' d', .int .u32 (s' : Int), .int .u32 (o' : Int)] 28)
  go_enter Tryd.func5, Tryd.ntmps5
  go_wp2_with fail
  obtain ⟨g5, hg5⟩ : ∃ g, g = w.heap.size + 1 := ⟨_, rfl⟩
  have y5 : w.heap.size ≤ g5 := by omega
  have n35 : w.heap.size ≠ g5 := by omega
  generalize (w.alloc (.cells #[.int .u64 (q : Int), .int .i64 k, .slice A n c, .slice B m d, .int .u32 (s : Int), .int .u32 (o : Int)] 28)).alloc (.cells #[.int .u64 (q' : Int), .int .i64 k', .slice A' n' c', .slice B' m' d', .int .u32 (s' : Int), .int .u32 (o' : Int)] 28) = w0 at *
  rw [← hg5] at q5 ⊢
  clear hg5
  refine (HMd _ hbw.size (ha.below hbw (Nat.le_refl _)) (hb.below hbw (Nat.le_refl _))).out.mono ?_
  rintro e w1 ⟨Ak, ck, Bk, dk, rfl, hck, hdk, rk, rv, b1⟩
  have y3 := q3.lt
  have y6 := q5.lt
  have q3 := q3.after b1
  have q5 := q5.after b1
  have hbw := hbw.trans (b1.mono hbw.size)
  clear b1 HMd
  have c0 := q3.cell 0
  have f0 := q3.frozen 0
  have c1 := q3.cell 1
  have f1 := q3.frozen 1
  have c2 := q3.cell 2
  have f2 := q3.frozen 2
  have c3 := q3.cell 3
  have f3 := q3.frozen 3
  have c4 := q3.cell 4
  have f4 := q3.frozen 4
  have c5 := q3.cell 5
  have f5 := q3.frozen 5
  go_upto_region 2 with (fail)
  clear c0 c1 c2 c3 c4 c5 f0 f1 f2 f3 f4 f5
  have q3 : Blk (World.setCell (World.setCell (World.setCell (World.setCell (World.setCell (World.setCell w1 ⟨w.heap.size, 0, none⟩ (.int .u64 (sq : Int))) ⟨w.heap.size, 1, none⟩ (.int .i64 (kd : Int))) ⟨w.heap.size, 2, none⟩ (.slice Ak nk ck)) ⟨w.heap.size, 3, none⟩ (.slice Bk nv dk)) ⟨w.heap.size, 4, none⟩ (.int .u32 (sg : Int))) ⟨w.heap.size, 5, none⟩ (.int .u32 (of : Int))) (w.heap.size) 28 #[.int .u64 (sq : Int), .int .i64 (kd : Int), .slice Ak nk ck, .slice Bk nv dk, .int .u32 (sg : Int), .int .u32 (of : Int)] := ((((((q3.set_ 0 (.int .u64 (sq : Int))).set_ 1 (.int .i64 (kd : Int))).set_ 2 (.slice Ak nk ck)).set_ 3 (.slice Bk nv dk)).set_ 4 (.int .u32 (sg : Int))).set_ 5 (.int .u32 (of : Int)))
  have q5 := ((((((q5.far (p := ⟨w.heap.size, 0, none⟩) n35.symm (.int .u64 (sq : Int))).far (p := ⟨w.heap.size, 1, none⟩) n35.symm (.int .i64 (kd : Int))).far (p := ⟨w.heap.size, 2, none⟩) n35.symm (.slice Ak nk ck)).far (p := ⟨w.heap.size, 3, none⟩) n35.symm (.slice Bk nv dk)).far (p := ⟨w.heap.size, 4, none⟩) n35.symm (.int .u32 (sg : Int))).far (p := ⟨w.heap.size, 5, none⟩) n35.symm (.int .u32 (of : Int)))
  have rk := ((((((rk.set_ (p := ⟨w.heap.size, 0, none⟩) (Nat.le_refl _) y3 (.int .u64 (sq : Int))).set_ (p := ⟨w.heap.size, 1, none⟩) (Nat.le_refl _) y3 (.int .i64 (kd : Int))).set_ (p := ⟨w.heap.size, 2, none⟩) (Nat.le_refl _) y3 (.slice Ak nk ck)).set_ (p := ⟨w.heap.size, 3, none⟩) (Nat.le_refl _) y3 (.slice Bk nv dk)).set_ (p := ⟨w.heap.size, 4, none⟩) (Nat.le_refl _) y3 (.int .u32 (sg : Int))).set_ (p := ⟨w.heap.size, 5, none⟩) (Nat.le_refl _) y3 (.int .u32 (of : Int)))
  have rv := ((((((rv.set_ (p := ⟨w.heap.size, 0, none⟩) (Nat.le_refl _) y3 (.int .u64 (sq : Int))).set_ (p := ⟨w.heap.size, 1, none⟩) (Nat.le_refl _) y3 (.int .i64 (kd : Int))).set_ (p := ⟨w.heap.size, 2, none⟩) (Nat.le_refl _) y3 (.slice Ak nk ck)).set_ (p := ⟨w.heap.size, 3, none⟩) (Nat.le_refl _) y3 (.slice Bk nv dk)).set_ (p := ⟨w.heap.size, 4, none⟩) (Nat.le_refl _) y3 (.int .u32 (sg : Int))).set_ (p := ⟨w.heap.size, 5, none⟩) (Nat.le_refl _) y3 (.int .u32 (of : Int)))
  have hbw := ((((((hbw.setCell (p := ⟨w.heap.size, 0, none⟩) (Nat.le_refl _) (.int .u64 (sq : Int))).setCell (p := ⟨w.heap.size, 1, none⟩) (Nat.le_refl _) (.int .i64 (kd : Int))).setCell (p := ⟨w.heap.size, 2, none⟩) (Nat.le_refl _) (.slice Ak nk ck)).setCell (p := ⟨w.heap.size, 3, none⟩) (Nat.le_refl _) (.slice Bk nv dk)).setCell (p := ⟨w.heap.size, 4, none⟩) (Nat.le_refl _) (.int .u32 (sg : Int))).setCell (p := ⟨w.heap.size, 5, none⟩) (Nat.le_refl _) (.int .u32 (of : Int)))
  have rk := rk.1
  have rv := rv.1
  generalize (World.setCell (World.setCell (World.setCell (World.setCell (World.setCell (World.setCell w1 ⟨w.heap.size, 0, none⟩ (.int .u64 (sq : Int))) ⟨w.heap.size, 1, none⟩ (.int .i64 (kd : Int))) ⟨w.heap.size, 2, none⟩ (.slice Ak nk ck)) ⟨w.heap.size, 3, none⟩ (.slice Bk nv dk)) ⟨w.heap.size, 4, none⟩ (.int .u32 (sg : Int))) ⟨w.heap.size, 5, none⟩ (.int .u32 (of : Int))) = w2 at *
  have hT := hT.below hbw hT.1.1 hT.2.1
  have c0 := q3.cell 0
  have c1 := q3.cell 1
  have c2 := q3.cell 2
  have c3 := q3.cell 3
  have c4 := q3.cell 4
  have c5 := q3.cell 5
  go_wp2_with fail
  refine (HPt _ _ _ _ _ hT rk rv).out.mono ?_
  rintro e w3 ⟨v7, rfl, o7, b⟩
  obtain ⟨g7, c7, rfl, hc7, _⟩ := own_ptr o7 (by omega)
  have r7 := own_rd o7
  clear o7 HPt
  clear c0 c1 c2 c3 c4 c5
  have q3 := q3.after b
  have q5 := q5.after b
  have rk := rk.after b
  have rv := rv.after b
  have hT := hT.after b
  have hbw := hbw.trans (b.mono hbw.size)
  clear b
  have c0 := q3.cell 0
  have c1 := q3.cell 1
  have c2 := q3.cell 2
  have c3 := q3.cell 3
  have c4 := q3.cell 4
  have c5 := q3.cell 5
  have i1 : ¬ (1113 : Int) < (L : Int) := by omega
  go_wp2_with fail
  refine (HSz _ _ _ _ _).out.mono ?_
  rintro e w4 ⟨rfl, b⟩
  have q3 := q3.after b
  have q5 := q5.after b
  have rk := rk.after b
  have rv := rv.after b
  have hT := hT.after b
  have r7 := r7.after b
  have hbw := hbw.trans (b.mono hbw.size)
  clear b
  clear c0 c1 c2 c3 c4 c5
  have c0 := q3.cell 0
  have c1 := q3.cell 1
  have c2 := q3.cell 2
  have c3 := q3.cell 3
  have c4 := q3.cell 4
  have c5 := q3.cell 5
  go_wp2_with fail
  refine (HMy _ _ _ _ _).out.mono ?_
  rintro e w5 ⟨rfl, b⟩
  have q3 := q3.after b
  have q5 := q5.after b
  have rk := rk.after b
  have rv := rv.after b
  have hT := hT.after b
  have r7 := r7.after b
  have hbw := hbw.trans (b.mono hbw.size)
  clear b
  clear c0 c1 c2 c3 c4 c5
  clear HSz HMy i1
  go_wp2_with fail
  go_cut [9, 10, 11] from 44 to 56 (fun v9 v10 v11 wx => RT w5 sq kd nk nv sg of L ka vb v9 v10 v11 wx)
  case first =>
    have rl := ((hl.below hbw (Nat.le_refl _)).more hbw.size).btake (k := x) hxl
    refine wp_region_tree (fun _ => True) (row [.calms [0, 2, 3, 4, 5, 6]] (.fork 1 (row [] (.fork 7 (row [] (.fork 8 (row [.calms [9, 10, 11, 12], .act 13, .act 14, .calms [15, 16]] .done) 13 (row [.act 8, .calms [9, 10, 11, 12], .act 14, .calms [15, 16]] .done))) 13 (row [.act 7, .act 8, .calms [9, 10, 11, 12], .act 14, .calms [15, 16]] .done))) 13 (row [.act 1, .act 7, .act 8, .calms [9, 10, 11, 12], .act 14, .calms [15, 16]] .done))) (by kernel_rfl) (by rfl) (by kernel_rfl) (by kernel_rfl) trivial ?_
    have hcur : Below w5.heap.size w5 w5.drew := ⟨rfl, rfl, rfl, Nat.le_refl _, fun _ _ => rfl⟩
    have r7 := r7.after hcur
    have rl := rl.after hcur
    generalize w5.drew = wd at *
    refine plan_calms (by simp [calmRow, need, chk]; rfl) ?_
    go_wp2_with fail
    refine plan_fork' (by rfl) (by rfl) (by kernel_rfl) (by kernel_rfl) ?_ ?_
    · skip
      refine wpList_app eltU8 rfl (.const (.slice none 0 0)) (.tmp 45) rfl rfl (World.ownsRow_nil wd wd.heap.size 5 1) rfl r7 (bcells_one R) (by omega) (by unfold maxLen; omega) (Below.refl _ _) (Nat.le_refl _) ?_
      intro va u1 oa ba ga hga
      rw [Nat.zero_add, List.nil_append] at oa
      clear ga hga
      have rl := rl.after ba
      obtain ⟨bs, hbs⟩ : ∃ bs, bs = wd.heap.size := ⟨_, rfl⟩
      have hbs1 : w5.heap.size ≤ bs := by have := hcur.size; omega
      have hcur := belowGo hcur ba
      have hbs2 : bs ≤ u1.heap.size := by have := ba.size; omega
      rw [← hbs] at oa
      obtain ⟨ga, ca, rfl, hca, hga1⟩ := own_ptr oa (by omega)
      have hga2 : ga < u1.heap.size := Ow.hi oa ga rfl
      clear ba hbs
      refine plan_done ?_
      refine plan_fork' (by rfl) (by rfl) (by kernel_rfl) (by kernel_rfl) ?_ ?_
      · skip
        refine wpList_app eltU8 rfl (.tmp 46) (.tmp 51) rfl rfl oa rfl rl (bcells_one _) (by omega) (by unfold maxLen; omega) (Below.refl _ _) hbs2 ?_
        intro vb2 u2 ob bb gb hgb
        rw [← bcells_append] at ob
        have hcur := below_of_grown hcur hcur.size (own_low oa hbs1) gb
        obtain ⟨gy, cy, rfl, hcy, _⟩ := own_ptr ob (by omega)
        have ry := own_rd ob
        clear bb gb hgb oa ob
        refine plan_done ?_
        refine plan_fork' (by rfl) (by rfl) (by kernel_rfl) (by kernel_rfl) ?_ ?_
        · skip
          go_wp2_with fail
          refine (HGt _ _ _ _ (hT.after hcur) hcy ry).out.mono ?_
          rintro e u3 ⟨gK, gV, rfl, sK, sV, l1, l2, bg⟩
          have hcur := belowGo hcur bg
          clear bg ry
          go_wp2_with fail
          refine plan_calms (by simp [calmRow, need]; rfl) ?_
          go_wp2_with fail
          refine plan_last (by rfl) (by kernel_rfl) ?_
          go_wp2_with fail
          have hsz := hcur.size
          have qg := Blk.new u3 28 #[.int .u64 0, .int .i64 0, .slice none 0 0, .slice none 0 0, .int .u32 0, .int .u32 0]
          have hcur := hcur.alloc hcur.size (.cells #[.int .u64 0, .int .i64 0, .slice none 0 0, .slice none 0 0, .int .u32 0, .int .u32 0] 28)
          have sK := sK.alloc (Nat.le_refl _) (.cells #[.int .u64 0, .int .i64 0, .slice none 0 0, .slice none 0 0, .int .u32 0, .int .u32 0] 28)
          have sV := sV.alloc (Nat.le_refl _) (.cells #[.int .u64 0, .int .i64 0, .slice none 0 0, .slice none 0 0, .int .u32 0, .int .u32 0] 28)
          have hzz : u3.heap.size ≤ (u3.alloc (.cells #[.int .u64 0, .int .i64 0, .slice none 0 0, .slice none 0 0, .int .u32 0, .int .u32 0] 28)).heap.size := by simp
          obtain ⟨g, hg⟩ : ∃ g, g = u3.heap.size := ⟨_, rfl⟩
          have hgg : w5.heap.size ≤ g := by omega
          have hgB : u3.heap.size ≤ g := by omega
          rw [← hg] at qg ⊢
          clear hg
          generalize u3.alloc (.cells #[.int .u64 0, .int .i64 0, .slice none 0 0, .slice none 0 0, .int .u32 0, .int .u32 0] 28) = u4 at *
          have cc0 := qg.cell 0
          have ff0 := qg.frozen 0
          have cc1 := qg.cell 1
          have ff1 := qg.frozen 1
          have cc2 := qg.cell 2
          have ff2 := qg.frozen 2
          have cc3 := qg.cell 3
          have ff3 := qg.frozen 3
          have cc4 := qg.cell 4
          have ff4 := qg.frozen 4
          have cc5 := qg.cell 5
          have ff5 := qg.frozen 5
          refine plan_last (by rfl) (by kernel_rfl) ?_
          go_wp2_with fail
          have q9 : Blk (World.setCell (World.setCell (World.setCell (World.setCell (World.setCell (World.setCell u4 ⟨g, 0, none⟩ (.int .u64 (sq : Int))) ⟨g, 1, none⟩ (.int .i64 (kd : Int))) ⟨g, 2, none⟩ (.slice (some ⟨gK, 0, none⟩) nk nk)) ⟨g, 3, none⟩ (.slice (some ⟨gV, 0, none⟩) nv nv)) ⟨g, 4, none⟩ (.int .u32 (sg : Int))) ⟨g, 5, none⟩ (.int .u32 (of : Int))) g 28 #[.int .u64 (sq : Int), .int .i64 (kd : Int), .slice (some ⟨gK, 0, none⟩) nk nk, .slice (some ⟨gV, 0, none⟩) nv nv, .int .u32 (sg : Int), .int .u32 (of : Int)] := ((((((qg.set_ 0 (.int .u64 (sq : Int))).set_ 1 (.int .i64 (kd : Int))).set_ 2 (.slice (some ⟨gK, 0, none⟩) nk nk)).set_ 3 (.slice (some ⟨gV, 0, none⟩) nv nv)).set_ 4 (.int .u32 (sg : Int))).set_ 5 (.int .u32 (of : Int)))
          have sK := (((((((sK.setCell (p := ⟨g, 0, none⟩) hgB (.int .u64 (sq : Int))).setCell (p := ⟨g, 1, none⟩) hgB (.int .i64 (kd : Int))).setCell (p := ⟨g, 2, none⟩) hgB (.slice (some ⟨gK, 0, none⟩) nk nk)).setCell (p := ⟨g, 3, none⟩) hgB (.slice (some ⟨gV, 0, none⟩) nv nv)).setCell (p := ⟨g, 4, none⟩) hgB (.int .u32 (sg : Int))).setCell (p := ⟨g, 5, none⟩) hgB (.int .u32 (of : Int)))).more (B' := ((World.setCell (World.setCell (World.setCell (World.setCell (World.setCell (World.setCell u4 ⟨g, 0, none⟩ (.int .u64 (sq : Int))) ⟨g, 1, none⟩ (.int .i64 (kd : Int))) ⟨g, 2, none⟩ (.slice (some ⟨gK, 0, none⟩) nk nk)) ⟨g, 3, none⟩ (.slice (some ⟨gV, 0, none⟩) nv nv)) ⟨g, 4, none⟩ (.int .u32 (sg : Int))) ⟨g, 5, none⟩ (.int .u32 (of : Int)))).heap.size) (by simp; omega)
          have sV := (((((((sV.setCell (p := ⟨g, 0, none⟩) hgB (.int .u64 (sq : Int))).setCell (p := ⟨g, 1, none⟩) hgB (.int .i64 (kd : Int))).setCell (p := ⟨g, 2, none⟩) hgB (.slice (some ⟨gK, 0, none⟩) nk nk)).setCell (p := ⟨g, 3, none⟩) hgB (.slice (some ⟨gV, 0, none⟩) nv nv)).setCell (p := ⟨g, 4, none⟩) hgB (.int .u32 (sg : Int))).setCell (p := ⟨g, 5, none⟩) hgB (.int .u32 (of : Int)))).more (B' := ((World.setCell (World.setCell (World.setCell (World.setCell (World.setCell (World.setCell u4 ⟨g, 0, none⟩ (.int .u64 (sq : Int))) ⟨g, 1, none⟩ (.int .i64 (kd : Int))) ⟨g, 2, none⟩ (.slice (some ⟨gK, 0, none⟩) nk nk)) ⟨g, 3, none⟩ (.slice (some ⟨gV, 0, none⟩) nv nv)) ⟨g, 4, none⟩ (.int .u32 (sg : Int))) ⟨g, 5, none⟩ (.int .u32 (of : Int)))).heap.size) (by simp; omega)
          have hcur := ((((((hcur.setCell (p := ⟨g, 0, none⟩) hgg (.int .u64 (sq : Int))).setCell (p := ⟨g, 1, none⟩) hgg (.int .i64 (kd : Int))).setCell (p := ⟨g, 2, none⟩) hgg (.slice (some ⟨gK, 0, none⟩) nk nk)).setCell (p := ⟨g, 3, none⟩) hgg (.slice (some ⟨gV, 0, none⟩) nv nv)).setCell (p := ⟨g, 4, none⟩) hgg (.int .u32 (sg : Int))).setCell (p := ⟨g, 5, none⟩) hgg (.int .u32 (of : Int)))
          refine plan_calms (by simp [calmRow, need]; rfl) ?_
          go_wp2_with fail
          refine plan_end ?_
          go_wp2_with fail
          go_meet
          case rel => exact ⟨g, gK, gV, rfl, q9, sK, sV, rfl, rfl, hcur⟩
        · skip
          go_wp2_with fail
          have hsz := hcur.size
          have qg := Blk.new u2 28 #[.int .u64 0, .int .i64 0, .slice none 0 0, .slice none 0 0, .int .u32 0, .int .u32 0]
          have hcur := hcur.alloc hcur.size (.cells #[.int .u64 0, .int .i64 0, .slice none 0 0, .slice none 0 0, .int .u32 0, .int .u32 0] 28)
          have ry := ry.allocs (.cells #[.int .u64 0, .int .i64 0, .slice none 0 0, .slice none 0 0, .int .u32 0, .int .u32 0] 28)
          obtain ⟨g, hg⟩ : ∃ g, g = u2.heap.size := ⟨_, rfl⟩
          have hgg : w5.heap.size ≤ g := by omega
          rw [← hg] at qg ⊢
          have hgw : g < (u2.alloc (.cells #[.int .u64 0, .int .i64 0, .slice none 0 0, .slice none 0 0, .int .u32 0, .int .u32 0] 28)).heap.size := qg.lt
          clear hg
          generalize u2.alloc (.cells #[.int .u64 0, .int .i64 0, .slice none 0 0, .slice none 0 0, .int .u32 0, .int .u32 0] 28) = u5 at *
          refine plan_last (by rfl) (by kernel_rfl) ?_
          go_wp2_with fail
          refine (HGt _ _ _ _ (hT.after hcur) hcy ry).out.mono ?_
          rintro e u6 ⟨gK, gV, rfl, sK, sV, l1, l2, bg⟩
          have qg := qg.after bg
          have hnK : gK ≠ g := by omega
          have hnV : gV ≠ g := by omega
          have hcur := belowGo hcur bg
          clear bg ry
          go_wp2_with fail
          refine plan_calms (by simp [calmRow, need]; rfl) ?_
          go_wp2_with fail
          have cc0 := qg.cell 0
          have ff0 := qg.frozen 0
          have cc1 := qg.cell 1
          have ff1 := qg.frozen 1
          have cc2 := qg.cell 2
          have ff2 := qg.frozen 2
          have cc3 := qg.cell 3
          have ff3 := qg.frozen 3
          have cc4 := qg.cell 4
          have ff4 := qg.frozen 4
          have cc5 := qg.cell 5
          have ff5 := qg.frozen 5
          refine plan_last (by rfl) (by kernel_rfl) ?_
          go_wp2_with fail
          have q9 : Blk (World.setCell (World.setCell (World.setCell (World.setCell (World.setCell (World.setCell u6 ⟨g, 0, none⟩ (.int .u64 (sq : Int))) ⟨g, 1, none⟩ (.int .i64 (kd : Int))) ⟨g, 2, none⟩ (.slice (some ⟨gK, 0, none⟩) nk nk)) ⟨g, 3, none⟩ (.slice (some ⟨gV, 0, none⟩) nv nv)) ⟨g, 4, none⟩ (.int .u32 (sg : Int))) ⟨g, 5, none⟩ (.int .u32 (of : Int))) g 28 #[.int .u64 (sq : Int), .int .i64 (kd : Int), .slice (some ⟨gK, 0, none⟩) nk nk, .slice (some ⟨gV, 0, none⟩) nv nv, .int .u32 (sg : Int), .int .u32 (of : Int)] := ((((((qg.set_ 0 (.int .u64 (sq : Int))).set_ 1 (.int .i64 (kd : Int))).set_ 2 (.slice (some ⟨gK, 0, none⟩) nk nk)).set_ 3 (.slice (some ⟨gV, 0, none⟩) nv nv)).set_ 4 (.int .u32 (sg : Int))).set_ 5 (.int .u32 (of : Int)))
          have sK := ((rd_set (rd_set (rd_set (rd_set (rd_set (rd_set sK (p := ⟨g, 0, none⟩) (.int .u64 (sq : Int)) hnK) (p := ⟨g, 1, none⟩) (.int .i64 (kd : Int)) hnK) (p := ⟨g, 2, none⟩) (.slice (some ⟨gK, 0, none⟩) nk nk) hnK) (p := ⟨g, 3, none⟩) (.slice (some ⟨gV, 0, none⟩) nv nv) hnK) (p := ⟨g, 4, none⟩) (.int .u32 (sg : Int)) hnK) (p := ⟨g, 5, none⟩) (.int .u32 (of : Int)) hnK)).more (B' := ((World.setCell (World.setCell (World.setCell (World.setCell (World.setCell (World.setCell u6 ⟨g, 0, none⟩ (.int .u64 (sq : Int))) ⟨g, 1, none⟩ (.int .i64 (kd : Int))) ⟨g, 2, none⟩ (.slice (some ⟨gK, 0, none⟩) nk nk)) ⟨g, 3, none⟩ (.slice (some ⟨gV, 0, none⟩) nv nv)) ⟨g, 4, none⟩ (.int .u32 (sg : Int))) ⟨g, 5, none⟩ (.int .u32 (of : Int)))).heap.size) (by simp)
          have sV := ((rd_set (rd_set (rd_set (rd_set (rd_set (rd_set sV (p := ⟨g, 0, none⟩) (.int .u64 (sq : Int)) hnV) (p := ⟨g, 1, none⟩) (.int .i64 (kd : Int)) hnV) (p := ⟨g, 2, none⟩) (.slice (some ⟨gK, 0, none⟩) nk nk) hnV) (p := ⟨g, 3, none⟩) (.slice (some ⟨gV, 0, none⟩) nv nv) hnV) (p := ⟨g, 4, none⟩) (.int .u32 (sg : Int)) hnV) (p := ⟨g, 5, none⟩) (.int .u32 (of : Int)) hnV)).more (B' := ((World.setCell (World.setCell (World.setCell (World.setCell (World.setCell (World.setCell u6 ⟨g, 0, none⟩ (.int .u64 (sq : Int))) ⟨g, 1, none⟩ (.int .i64 (kd : Int))) ⟨g, 2, none⟩ (.slice (some ⟨gK, 0, none⟩) nk nk)) ⟨g, 3, none⟩ (.slice (some ⟨gV, 0, none⟩) nv nv)) ⟨g, 4, none⟩ (.int .u32 (sg : Int))) ⟨g, 5, none⟩ (.int .u32 (of : Int)))).heap.size) (by simp)
          have hcur := ((((((hcur.setCell (p := ⟨g, 0, none⟩) hgg (.int .u64 (sq : Int))).setCell (p := ⟨g, 1, none⟩) hgg (.int .i64 (kd : Int))).setCell (p := ⟨g, 2, none⟩) hgg (.slice (some ⟨gK, 0, none⟩) nk nk)).setCell (p := ⟨g, 3, none⟩) hgg (.slice (some ⟨gV, 0, none⟩) nv nv)).setCell (p := ⟨g, 4, none⟩) hgg (.int .u32 (sg : Int))).setCell (p := ⟨g, 5, none⟩) hgg (.int .u32 (of : Int)))
          refine plan_calms (by simp [calmRow, need]; rfl) ?_
          go_wp2_with fail
          refine plan_end ?_
          go_wp2_with fail
          go_meet
          case rel => exact ⟨g, gK, gV, rfl, q9, sK, sV, rfl, rfl, hcur⟩
      · skip
        go_wp2_with fail
        have hsz := hcur.size
        have qg := Blk.new u1 28 #[.int .u64 0, .int .i64 0, .slice none 0 0, .slice none 0 0, .int .u32 0, .int .u32 0]
        have hcur := hcur.alloc hcur.size (.cells #[.int .u64 0, .int .i64 0, .slice none 0 0, .slice none 0 0, .int .u32 0, .int .u32 0] 28)
        have oa := World.ownsRow.alloc oa (.cells #[.int .u64 0, .int .i64 0, .slice none 0 0, .slice none 0 0, .int .u32 0, .int .u32 0] 28)
        have rl := rl.allocs (.cells #[.int .u64 0, .int .i64 0, .slice none 0 0, .slice none 0 0, .int .u32 0, .int .u32 0] 28)
        have hbs2 : bs ≤ (u1.alloc (.cells #[.int .u64 0, .int .i64 0, .slice none 0 0, .slice none 0 0, .int .u32 0, .int .u32 0] 28)).heap.size := by simp; omega
        obtain ⟨g, hg⟩ : ∃ g, g = u1.heap.size := ⟨_, rfl⟩
        have hgg : w5.heap.size ≤ g := by omega
        have hne : ga ≠ g := by omega
        rw [← hg] at qg ⊢
        clear hg
        generalize u1.alloc (.cells #[.int .u64 0, .int .i64 0, .slice none 0 0, .slice none 0 0, .int .u32 0, .int .u32 0] 28) = u7 at *
        refine plan_last (by rfl) (by kernel_rfl) ?_
        refine wpList_app eltU8 rfl (.tmp 46) (.tmp 51) rfl rfl oa rfl rl (bcells_one _) (by omega) (by unfold maxLen; omega) (Below.refl _ _) hbs2 ?_
        intro vb2 u8 ob bb gb hgb
        rw [← bcells_append] at ob
        have qg := qg.grown gb (fun h => hne (by injection h with h; exact h.symm))
        have hcur := below_of_grown hcur hcur.size (own_low oa hbs1) gb
        obtain ⟨gy, cy, rfl, hcy, _⟩ := own_ptr ob (by omega)
        have ry := own_rd ob
        have hgw : g < u8.heap.size := qg.lt
        clear bb gb hgb oa ob
        refine plan_done ?_
        refine plan_last (by rfl) (by kernel_rfl) ?_
        go_wp2_with fail
        refine (HGt _ _ _ _ (hT.after hcur) hcy ry).out.mono ?_
        rintro e u9 ⟨gK, gV, rfl, sK, sV, l1, l2, bg⟩
        have qg := qg.after bg
        have hnK : gK ≠ g := by omega
        have hnV : gV ≠ g := by omega
        have hcur := belowGo hcur bg
        clear bg ry
        go_wp2_with fail
        refine plan_calms (by simp [calmRow, need]; rfl) ?_
        go_wp2_with fail
        have cc0 := qg.cell 0
        have ff0 := qg.frozen 0
        have cc1 := qg.cell 1
        have ff1 := qg.frozen 1
        have cc2 := qg.cell 2
        have ff2 := qg.frozen 2
        have cc3 := qg.cell 3
        have ff3 := qg.frozen 3
        have cc4 := qg.cell 4
        have ff4 := qg.frozen 4
        have cc5 := qg.cell 5
        have ff5 := qg.frozen 5
        refine plan_last (by rfl) (by kernel_rfl) ?_
        go_wp2_with fail
        have q9 : Blk (World.setCell (World.setCell (World.setCell (World.setCell (World.setCell (World.setCell u9 ⟨g, 0, none⟩ (.int .u64 (sq : Int))) ⟨g, 1, none⟩ (.int .i64 (kd : Int))) ⟨g, 2, none⟩ (.slice (some ⟨gK, 0, none⟩) nk nk)) ⟨g, 3, none⟩ (.slice (some ⟨gV, 0, none⟩) nv nv)) ⟨g, 4, none⟩ (.int .u32 (sg : Int))) ⟨g, 5, none⟩ (.int .u32 (of : Int))) g 28 #[.int .u64 (sq : Int), .int .i64 (kd : Int), .slice (some ⟨gK, 0, none⟩) nk nk, .slice (some ⟨gV, 0, none⟩) nv nv, .int .u32 (sg : Int), .int .u32 (of : Int)] := ((((((qg.set_ 0 (.int .u64 (sq : Int))).set_ 1 (.int .i64 (kd : Int))).set_ 2 (.slice (some ⟨gK, 0, none⟩) nk nk)).set_ 3 (.slice (some ⟨gV, 0, none⟩) nv nv)).set_ 4 (.int .u32 (sg : Int))).set_ 5 (.int .u32 (of : Int)))
        have sK := ((rd_set (rd_set (rd_set (rd_set (rd_set (rd_set sK (p := ⟨g, 0, none⟩) (.int .u64 (sq : Int)) hnK) (p := ⟨g, 1, none⟩) (.int .i64 (kd : Int)) hnK) (p := ⟨g, 2, none⟩) (.slice (some ⟨gK, 0, none⟩) nk nk) hnK) (p := ⟨g, 3, none⟩) (.slice (some ⟨gV, 0, none⟩) nv nv) hnK) (p := ⟨g, 4, none⟩) (.int .u32 (sg : Int)) hnK) (p := ⟨g, 5, none⟩) (.int .u32 (of : Int)) hnK)).more (B' := ((World.setCell (World.setCell (World.setCell (World.setCell (World.setCell (World.setCell u9 ⟨g, 0, none⟩ (.int .u64 (sq : Int))) ⟨g, 1, none⟩ (.int .i64 (kd : Int))) ⟨g, 2, none⟩ (.slice (some ⟨gK, 0, none⟩) nk nk)) ⟨g, 3, none⟩ (.slice (some ⟨gV, 0, none⟩) nv nv)) ⟨g, 4, none⟩ (.int .u32 (sg : Int))) ⟨g, 5, none⟩ (.int .u32 (of : Int)))).heap.size) (by simp)
        have sV := ((rd_set (rd_set (rd_set (rd_set (rd_set (rd_set sV (p := ⟨g, 0, none⟩) (.int .u64 (sq : Int)) hnV) (p := ⟨g, 1, none⟩) (.int .i64 (kd : Int)) hnV) (p := ⟨g, 2, none⟩) (.slice (some ⟨gK, 0, none⟩) nk nk) hnV) (p := ⟨g, 3, none⟩) (.slice (some ⟨gV, 0, none⟩) nv nv) hnV) (p := ⟨g, 4, none⟩) (.int .u32 (sg : Int)) hnV) (p := ⟨g, 5, none⟩) (.int .u32 (of : Int)) hnV)).more (B' := ((World.setCell (World.setCell (World.setCell (World.setCell (World.setCell (World.setCell u9 ⟨g, 0, none⟩ (.int .u64 (sq : Int))) ⟨g, 1, none⟩ (.int .i64 (kd : Int))) ⟨g, 2, none⟩ (.slice (some ⟨gK, 0, none⟩) nk nk)) ⟨g, 3, none⟩ (.slice (some ⟨gV, 0, none⟩) nv nv)) ⟨g, 4, none⟩ (.int .u32 (sg : Int))) ⟨g, 5, none⟩ (.int .u32 (of : Int)))).heap.size) (by simp)
        have hcur := ((((((hcur.setCell (p := ⟨g, 0, none⟩) hgg (.int .u64 (sq : Int))).setCell (p := ⟨g, 1, none⟩) hgg (.int .i64 (kd : Int))).setCell (p := ⟨g, 2, none⟩) hgg (.slice (some ⟨gK, 0, none⟩) nk nk)).setCell (p := ⟨g, 3, none⟩) hgg (.slice (some ⟨gV, 0, none⟩) nv nv)).setCell (p := ⟨g, 4, none⟩) hgg (.int .u32 (sg : Int))).setCell (p := ⟨g, 5, none⟩) hgg (.int .u32 (of : Int)))
        refine plan_calms (by simp [calmRow, need]; rfl) ?_
        go_wp2_with fail
        refine plan_end ?_
        go_wp2_with fail
        go_meet
        case rel => exact ⟨g, gK, gV, rfl, q9, sK, sV, rfl, rfl, hcur⟩
    · skip
      go_wp2_with fail
      have hsz := hcur.size
      have qg := Blk.new wd 28 #[.int .u64 0, .int .i64 0, .slice none 0 0, .slice none 0 0, .int .u32 0, .int .u32 0]
      have hcur := hcur.alloc hcur.size (.cells #[.int .u64 0, .int .i64 0, .slice none 0 0, .slice none 0 0, .int .u32 0, .int .u32 0] 28)
      have r7 := r7.allocs (.cells #[.int .u64 0, .int .i64 0, .slice none 0 0, .slice none 0 0, .int .u32 0, .int .u32 0] 28)
      have rl := rl.allocs (.cells #[.int .u64 0, .int .i64 0, .slice none 0 0, .slice none 0 0, .int .u32 0, .int .u32 0] 28)
      obtain ⟨g, hg⟩ : ∃ g, g = wd.heap.size := ⟨_, rfl⟩
      have hgg : w5.heap.size ≤ g := by omega
      rw [← hg] at qg ⊢
      clear hg
      generalize wd.alloc (.cells #[.int .u64 0, .int .i64 0, .slice none 0 0, .slice none 0 0, .int .u32 0, .int .u32 0] 28) = u10 at *
      refine plan_last (by rfl) (by kernel_rfl) ?_
      have hgw := qg.lt
      refine wpList_app eltU8 rfl (.const (.slice none 0 0)) (.tmp 45) rfl rfl (World.ownsRow_nil u10 u10.heap.size 5 1) rfl r7 (bcells_one R) (by omega) (by unfold maxLen; omega) (Below.refl _ _) (Nat.le_refl _) ?_
      intro va u11 oa ba ga hga
      rw [Nat.zero_add, List.nil_append] at oa
      clear ga hga
      have qg := qg.after ba
      have rl := rl.after ba
      obtain ⟨bs, hbs⟩ : ∃ bs, bs = u10.heap.size := ⟨_, rfl⟩
      have hbs1 : w5.heap.size ≤ bs := by have := hcur.size; omega
      have hcur := belowGo hcur ba
      have hbs2 : bs ≤ u11.heap.size := by have := ba.size; omega
      rw [← hbs] at oa
      obtain ⟨ga, ca, rfl, hca, hga1⟩ := own_ptr oa (by omega)
      have hga2 : ga < u11.heap.size := Ow.hi oa ga rfl
      have hne : ga ≠ g := by omega
      clear ba hbs
      refine plan_done ?_
      refine plan_last (by rfl) (by kernel_rfl) ?_
      refine wpList_app eltU8 rfl (.tmp 46) (.tmp 51) rfl rfl oa rfl rl (bcells_one _) (by omega) (by unfold maxLen; omega) (Below.refl _ _) hbs2 ?_
      intro vb2 u12 ob bb gb hgb
      rw [← bcells_append] at ob
      have qg := qg.grown gb (fun h => hne (by injection h with h; exact h.symm))
      have hcur := below_of_grown hcur hcur.size (own_low oa hbs1) gb
      obtain ⟨gy, cy, rfl, hcy, _⟩ := own_ptr ob (by omega)
      have ry := own_rd ob
      have hgw : g < u12.heap.size := qg.lt
      clear bb gb hgb oa ob
      refine plan_done ?_
      refine plan_last (by rfl) (by kernel_rfl) ?_
      go_wp2_with fail
      refine (HGt _ _ _ _ (hT.after hcur) hcy ry).out.mono ?_
      rintro e u13 ⟨gK, gV, rfl, sK, sV, l1, l2, bg⟩
      have qg := qg.after bg
      have hnK : gK ≠ g := by omega
      have hnV : gV ≠ g := by omega
      have hcur := belowGo hcur bg
      clear bg ry
      go_wp2_with fail
      refine plan_calms (by simp [calmRow, need]; rfl) ?_
      go_wp2_with fail
      have cc0 := qg.cell 0
      have ff0 := qg.frozen 0
      have cc1 := qg.cell 1
      have ff1 := qg.frozen 1
      have cc2 := qg.cell 2
      have ff2 := qg.frozen 2
      have cc3 := qg.cell 3
      have ff3 := qg.frozen 3
      have cc4 := qg.cell 4
      have ff4 := qg.frozen 4
      have cc5 := qg.cell 5
      have ff5 := qg.frozen 5
      refine plan_last (by rfl) (by kernel_rfl) ?_
      go_wp2_with fail
      have q9 : Blk (World.setCell (World.setCell (World.setCell (World.setCell (World.setCell (World.setCell u13 ⟨g, 0, none⟩ (.int .u64 (sq : Int))) ⟨g, 1, none⟩ (.int .i64 (kd : Int))) ⟨g, 2, none⟩ (.slice (some ⟨gK, 0, none⟩) nk nk)) ⟨g, 3, none⟩ (.slice (some ⟨gV, 0, none⟩) nv nv)) ⟨g, 4, none⟩ (.int .u32 (sg : Int))) ⟨g, 5, none⟩ (.int .u32 (of : Int))) g 28 #[.int .u64 (sq : Int), .int .i64 (kd : Int), .slice (some ⟨gK, 0, none⟩) nk nk, .slice (some ⟨gV, 0, none⟩) nv nv, .int .u32 (sg : Int), .int .u32 (of : Int)] := ((((((qg.set_ 0 (.int .u64 (sq : Int))).set_ 1 (.int .i64 (kd : Int))).set_ 2 (.slice (some ⟨gK, 0, none⟩) nk nk)).set_ 3 (.slice (some ⟨gV, 0, none⟩) nv nv)).set_ 4 (.int .u32 (sg : Int))).set_ 5 (.int .u32 (of : Int)))
      have sK := ((rd_set (rd_set (rd_set (rd_set (rd_set (rd_set sK (p := ⟨g, 0, none⟩) (.int .u64 (sq : Int)) hnK) (p := ⟨g, 1, none⟩) (.int .i64 (kd : Int)) hnK) (p := ⟨g, 2, none⟩) (.slice (some ⟨gK, 0, none⟩) nk nk) hnK) (p := ⟨g, 3, none⟩) (.slice (some ⟨gV, 0, none⟩) nv nv) hnK) (p := ⟨g, 4, none⟩) (.int .u32 (sg : Int)) hnK) (p := ⟨g, 5, none⟩) (.int .u32 (of : Int)) hnK)).more (B' := ((World.setCell (World.setCell (World.setCell (World.setCell (World.setCell (World.setCell u13 ⟨g, 0, none⟩ (.int .u64 (sq : Int))) ⟨g, 1, none⟩ (.int .i64 (kd : Int))) ⟨g, 2, none⟩ (.slice (some ⟨gK, 0, none⟩) nk nk)) ⟨g, 3, none⟩ (.slice (some ⟨gV, 0, none⟩) nv nv)) ⟨g, 4, none⟩ (.int .u32 (sg : Int))) ⟨g, 5, none⟩ (.int .u32 (of : Int)))).heap.size) (by simp)
      have sV := ((rd_set (rd_set (rd_set (rd_set (rd_set (rd_set sV (p := ⟨g, 0, none⟩) (.int .u64 (sq : Int)) hnV) (p := ⟨g, 1, none⟩) (.int .i64 (kd : Int)) hnV) (p := ⟨g, 2, none⟩) (.slice (some ⟨gK, 0, none⟩) nk nk) hnV) (p := ⟨g, 3, none⟩) (.slice (some ⟨gV, 0, none⟩) nv nv) hnV) (p := ⟨g, 4, none⟩) (.int .u32 (sg : Int)) hnV) (p := ⟨g, 5, none⟩) (.int .u32 (of : Int)) hnV)).more (B' := ((World.setCell (World.setCell (World.setCell (World.setCell (World.setCell (World.setCell u13 ⟨g, 0, none⟩ (.int .u64 (sq : Int))) ⟨g, 1, none⟩ (.int .i64 (kd : Int))) ⟨g, 2, none⟩ (.slice (some ⟨gK, 0, none⟩) nk nk)) ⟨g, 3, none⟩ (.slice (some ⟨gV, 0, none⟩) nv nv)) ⟨g, 4, none⟩ (.int .u32 (sg : Int))) ⟨g, 5, none⟩ (.int .u32 (of : Int)))).heap.size) (by simp)
      have hcur := ((((((hcur.setCell (p := ⟨g, 0, none⟩) hgg (.int .u64 (sq : Int))).setCell (p := ⟨g, 1, none⟩) hgg (.int .i64 (kd : Int))).setCell (p := ⟨g, 2, none⟩) hgg (.slice (some ⟨gK, 0, none⟩) nk nk)).setCell (p := ⟨g, 3, none⟩) hgg (.slice (some ⟨gV, 0, none⟩) nv nv)).setCell (p := ⟨g, 4, none⟩) hgg (.int .u32 (sg : Int))).setCell (p := ⟨g, 5, none⟩) hgg (.int .u32 (of : Int)))
      refine plan_calms (by simp [calmRow, need]; rfl) ?_
      go_wp2_with fail
      refine plan_end ?_
      go_wp2_with fail
      go_meet
      case rel => exact ⟨g, gK, gV, rfl, q9, sK, sV, rfl, rfl, hcur⟩
  case rest =>
    obtain ⟨g9, gK, gV, rfl, q9, sK, sV, rfl, rfl, b⟩ := hcut
    have q3 := q3.after b
    have q5 := q5.after b
    have rk := rk.after b
    have rv := rv.after b
    have hT := hT.after b
    have r7 := r7.after b
    have hbw := hbw.trans (b.mono hbw.size)
    clear b
    have c0 := q3.cell 0
    have c1 := q3.cell 1
    have c2 := q3.cell 2
    have c3 := q3.cell 3
    have c4 := q3.cell 4
    have c5 := q3.cell 5
    have d0 := q9.cell 0
    have d1 := q9.cell 1
    have d2 := q9.cell 2
    have d3 := q9.cell 3
    have d4 := q9.cell 4
    have d5 := q9.cell 5
    go_wp2_with fail
    refine (HSm _ _ _ _ _ _ _ _ _ _ _ _ _ sK sV rk rv).out.mono ?_
    rintro e wl ⟨rfl, b⟩
    have q5 := q5.after b
    have hT := hT.after b
    have r7 := r7.after b
    have hbw := hbw.trans (b.mono hbw.size)
    clear b
    clear c0 c1 c2 c3 c4 c5 d0 d1 d2 d3 d4 d5
    clear HSm HGt q3 q9 rk rv sK sV
    go_wp2_with fail
    go_loopw [12] (fun kk wr => ∃ j : Nat, j ≤ L ∧ kk = .int .i64 (j : Int) ∧ Below wl.heap.size wl wr) (fun kk _ => L - (intOf kk).toNat)
    case atStart => exact ⟨0, by omega, rfl, Below.refl _ _⟩
    case round =>
      obtain ⟨j, hj, rfl, hbr⟩ := hrel
      have r7 := r7.after hbr
      have hT := hT.after hbr
      by_cases hlt : j < L
      · by_cases s1 : 200 < L
        · have t1 : (200 : Int) < (L : Int) := by omega
          by_cases s2 : 40 < j
          · have t2 : (40 : Int) < (j : Int) := by omega
            by_cases s3 : j % 37 = 0
            · have t3 : (((j : Int) % 37) != 0) = false := by simp; omega
              have j1 : (j : Int) ≤ (c7 : Int) := by omega
              have j2 : j ≤ c7 := by omega
              have HTj := HTn j hlt
              clear HTn
              go_wp2_with fail
              refine (HTj _ _ _ hT j2 (r7.btake (k := j) (by omega))).out.mono ?_
              rintro e wa ⟨rfl, b⟩
              have hbr := belowGo hbr b
              clear b HTj
              go_wp2_with fail
              have hbr := belowAlloc hbr (.cells #[.int .u64 0, .int .i64 0, .slice none 0 0, .slice none 0 0, .int .u32 0, .int .u32 0] 28)
              refine (HS0 _).out.mono ?_
              rintro e wb ⟨rfl, b⟩
              have hbr := belowGo hbr b
              go_wp2_with fail
              go_roundw
              case rel => exact ⟨j + 1, by omega, by go_num, hbr⟩
              case measure => simp [intOf]; omega
            · have t3 : (((j : Int) % 37) != 0) = true := by simp; omega
              by_cases s4 : j < L - 20
              · have t4 : (j : Int) < (L : Int) - 20 := by omega
                go_wp2_with fail
                go_roundw
                case rel => exact ⟨j + 1, by omega, by go_num, hbr⟩
                case measure => simp [intOf]; omega
              · have t4 : ¬ (j : Int) < (L : Int) - 20 := by omega
                have j1 : (j : Int) ≤ (c7 : Int) := by omega
                have j2 : j ≤ c7 := by omega
                have HTj := HTn j hlt
                clear HTn
                go_wp2_with fail
                refine (HTj _ _ _ hT j2 (r7.btake (k := j) (by omega))).out.mono ?_
                rintro e wa ⟨rfl, b⟩
                have hbr := belowGo hbr b
                clear b HTj
                go_wp2_with fail
                have hbr := belowAlloc hbr (.cells #[.int .u64 0, .int .i64 0, .slice none 0 0, .slice none 0 0, .int .u32 0, .int .u32 0] 28)
                refine (HS0 _).out.mono ?_
                rintro e wb ⟨rfl, b⟩
                have hbr := belowGo hbr b
                go_wp2_with fail
                go_roundw
                case rel => exact ⟨j + 1, by omega, by go_num, hbr⟩
                case measure => simp [intOf]; omega
          · have t2 : ¬ (40 : Int) < (j : Int) := by omega
            have j1 : (j : Int) ≤ (c7 : Int) := by omega
            have j2 : j ≤ c7 := by omega
            have HTj := HTn j hlt
            clear HTn
            go_wp2_with fail
            refine (HTj _ _ _ hT j2 (r7.btake (k := j) (by omega))).out.mono ?_
            rintro e wa ⟨rfl, b⟩
            have hbr := belowGo hbr b
            clear b HTj
            go_wp2_with fail
            have hbr := belowAlloc hbr (.cells #[.int .u64 0, .int .i64 0, .slice none 0 0, .slice none 0 0, .int .u32 0, .int .u32 0] 28)
            refine (HS0 _).out.mono ?_
            rintro e wb ⟨rfl, b⟩
            have hbr := belowGo hbr b
            go_wp2_with fail
            go_roundw
            case rel => exact ⟨j + 1, by omega, by go_num, hbr⟩
            case measure => simp [intOf]; omega
        · have t1 : ¬ (200 : Int) < (L : Int) := by omega
          have j1 : (j : Int) ≤ (c7 : Int) := by omega
          have j2 : j ≤ c7 := by omega
          have HTj := HTn j hlt
          clear HTn
          go_wp2_with fail
          refine (HTj _ _ _ hT j2 (r7.btake (k := j) (by omega))).out.mono ?_
          rintro e wa ⟨rfl, b⟩
          have hbr := belowGo hbr b
          clear b HTj
          go_wp2_with fail
          have hbr := belowAlloc hbr (.cells #[.int .u64 0, .int .i64 0, .slice none 0 0, .slice none 0 0, .int .u32 0, .int .u32 0] 28)
          refine (HS0 _).out.mono ?_
          rintro e wb ⟨rfl, b⟩
          have hbr := belowGo hbr b
          go_wp2_with fail
          go_roundw
          case rel => exact ⟨j + 1, by omega, by go_num, hbr⟩
          case measure => simp [intOf]; omega
      · obtain rfl : j = L := by omega
        clear HTn HS0
        have q5 := q5.after hbr
        have hbw := hbw.trans (hbr.mono hbw.size)
        have c0 := q5.cell 0
        have c1 := q5.cell 1
        have c2 := q5.cell 2
        have c3 := q5.cell 3
        have c4 := q5.cell 4
        have c5 := q5.cell 5
        go_wp2_with fail
        refine (HFw _ hbw.size (ha'.below hbw (Nat.le_refl _)) (hb'.below hbw (Nat.le_refl _))).out.mono ?_
        rintro e wf ⟨Af, cf, Bf, df, rfl, hcf, hdf, rf, rg, b⟩
        have y7 := q5.lt
        have q5 := q5.after b
        have hbw := hbw.trans (b.mono hbw.size)
        clear b HFw
        clear c0 c1 c2 c3 c4 c5
        have c0 := q5.cell 0
        have f0 := q5.frozen 0
        have c1 := q5.cell 1
        have f1 := q5.frozen 1
        have c2 := q5.cell 2
        have f2 := q5.frozen 2
        have c3 := q5.cell 3
        have f3 := q5.frozen 3
        have c4 := q5.cell 4
        have f4 := q5.frozen 4
        have c5 := q5.cell 5
        have f5 := q5.frozen 5
        go_upto_region 16 with (fail)
        clear c0 c1 c2 c3 c4 c5 f0 f1 f2 f3 f4 f5
        have q5 : Blk (World.setCell (World.setCell (World.setCell (World.setCell (World.setCell (World.setCell wf ⟨g5, 0, none⟩ (.int .u64 (q' : Int))) ⟨g5, 1, none⟩ (.int .i64 k')) ⟨g5, 2, none⟩ (.slice Af n1 cf)) ⟨g5, 3, none⟩ (.slice Bf m1 df)) ⟨g5, 4, none⟩ (.int .u32 (s' : Int))) ⟨g5, 5, none⟩ (.int .u32 (o' : Int))) g5 28 #[.int .u64 (q' : Int), .int .i64 k', .slice Af n1 cf, .slice Bf m1 df, .int .u32 (s' : Int), .int .u32 (o' : Int)] := ((((((q5.set_ 0 (.int .u64 (q' : Int))).set_ 1 (.int .i64 k')).set_ 2 (.slice Af n1 cf)).set_ 3 (.slice Bf m1 df)).set_ 4 (.int .u32 (s' : Int))).set_ 5 (.int .u32 (o' : Int)))
        have rf := (((((((rf.set_ (p := ⟨g5, 0, none⟩) y5 y7 (.int .u64 (q' : Int))).set_ (p := ⟨g5, 1, none⟩) y5 y7 (.int .i64 k')).set_ (p := ⟨g5, 2, none⟩) y5 y7 (.slice Af n1 cf)).set_ (p := ⟨g5, 3, none⟩) y5 y7 (.slice Bf m1 df)).set_ (p := ⟨g5, 4, none⟩) y5 y7 (.int .u32 (s' : Int))).set_ (p := ⟨g5, 5, none⟩) y5 y7 (.int .u32 (o' : Int)))).1
        have rg := (((((((rg.set_ (p := ⟨g5, 0, none⟩) y5 y7 (.int .u64 (q' : Int))).set_ (p := ⟨g5, 1, none⟩) y5 y7 (.int .i64 k')).set_ (p := ⟨g5, 2, none⟩) y5 y7 (.slice Af n1 cf)).set_ (p := ⟨g5, 3, none⟩) y5 y7 (.slice Bf m1 df)).set_ (p := ⟨g5, 4, none⟩) y5 y7 (.int .u32 (s' : Int))).set_ (p := ⟨g5, 5, none⟩) y5 y7 (.int .u32 (o' : Int)))).1
        have hbw := ((((((hbw.setCell (p := ⟨g5, 0, none⟩) y5 (.int .u64 (q' : Int))).setCell (p := ⟨g5, 1, none⟩) y5 (.int .i64 k')).setCell (p := ⟨g5, 2, none⟩) y5 (.slice Af n1 cf)).setCell (p := ⟨g5, 3, none⟩) y5 (.slice Bf m1 df)).setCell (p := ⟨g5, 4, none⟩) y5 (.int .u32 (s' : Int))).setCell (p := ⟨g5, 5, none⟩) y5 (.int .u32 (o' : Int)))
        generalize (World.setCell (World.setCell (World.setCell (World.setCell (World.setCell (World.setCell wf ⟨g5, 0, none⟩ (.int .u64 (q' : Int))) ⟨g5, 1, none⟩ (.int .i64 k')) ⟨g5, 2, none⟩ (.slice Af n1 cf)) ⟨g5, 3, none⟩ (.slice Bf m1 df)) ⟨g5, 4, none⟩ (.int .u32 (s' : Int))) ⟨g5, 5, none⟩ (.int .u32 (o' : Int))) = wh at *
        have hT := TabR.below hT0.out hbw hT0.out.1.1 hT0.out.2.1
        have hn64 := rf.2.1
        unfold maxLen at hn64
        by_cases hm2 : mayR q' k' n1 m1 s' o' = true
        · obtain ⟨kn, rfl⟩ : ∃ kn : Nat, k' = (kn : Int) := ⟨k'.toNat, by have := mayR_bounds hm2; omega⟩
          have c0 := q5.cell 0
          have c1 := q5.cell 1
          have c2 := q5.cell 2
          have c3 := q5.cell 3
          have c4 := q5.cell 4
          have c5 := q5.cell 5
          have HP2 := Lib.hid (putR_yes q' kn a1 b1 Af n1 cf Bf m1 df s' o' wh hT hm2 rf rg)
          have HM2 := fun W => Lib.hid (mayR_any q' (kn : Int) Af n1 cf Bf m1 df s' o' W (by omega))
          rw [hm2] at HM2
          unfold recV at HP2 HM2
          clear hm2
          go_wp2_with fail
          refine HP2.out.mono ?_
          rintro e wi ⟨v8, rfl, o8, b⟩
          obtain ⟨A8, c8, rfl, _⟩ := own_cap o8
          clear o8 HP2
          clear c0 c1 c2 c3 c4 c5
          have q5 := q5.after b
          have hT := hT.after b
          have hbw := hbw.trans (b.mono hbw.size)
          clear b
          have c0 := q5.cell 0
          have c1 := q5.cell 1
          have c2 := q5.cell 2
          have c3 := q5.cell 3
          have c4 := q5.cell 4
          have c5 := q5.cell 5
          go_wp2_with fail
          refine (HM2 _).out.mono ?_
          rintro e wj ⟨rfl, b⟩
          have hT := hT.after b
          have hbw := hbw.trans (b.mono hbw.size)
          clear b
          clear c0 c1 c2 c3 c4 c5
          clear HM2
          go_wp2_with fail
          refine (knows_any _ hT).mono ?_
          rintro e wk ⟨rfl, b⟩
          go_wp2_with fail
          go_ret
          exact ⟨rfl, hbw.trans (b.mono hbw.size)⟩
        · have hm2 : mayR q' k' n1 m1 s' o' = false := by simpa using hm2
          have c0 := q5.cell 0
          have c1 := q5.cell 1
          have c2 := q5.cell 2
          have c3 := q5.cell 3
          have c4 := q5.cell 4
          have c5 := q5.cell 5
          have HP2 := Lib.hid (putR_no q' k' Af n1 cf Bf m1 df s' o' wh (by omega) hm2)
          have HM2 := fun W => Lib.hid (mayR_any q' k' Af n1 cf Bf m1 df s' o' W (by omega))
          rw [hm2] at HM2
          unfold recV at HP2 HM2
          clear hm2
          go_wp2_with fail
          refine HP2.out.mono ?_
          rintro e wi ⟨v8, rfl, o8, b⟩
          obtain ⟨A8, c8, rfl, _⟩ := own_cap o8
          clear o8 HP2
          clear c0 c1 c2 c3 c4 c5
          have q5 := q5.after b
          have hT := hT.after b
          have hbw := hbw.trans (b.mono hbw.size)
          clear b
          have c0 := q5.cell 0
          have c1 := q5.cell 1
          have c2 := q5.cell 2
          have c3 := q5.cell 3
          have c4 := q5.cell 4
          have c5 := q5.cell 5
          go_wp2_with fail
          refine (HM2 _).out.mono ?_
          rintro e wj ⟨rfl, b⟩
          have hT := hT.after b
          have hbw := hbw.trans (b.mono hbw.size)
          clear b
          clear c0 c1 c2 c3 c4 c5
          clear HM2
          go_wp2_with fail
          refine (knows_any _ hT).mono ?_
          rintro e wk ⟨rfl, b⟩
          go_wp2_with fail
          go_ret
          exact ⟨rfl, hbw.trans (b.mono hbw.size)⟩
end Go.Proofs.YtlnidmjnomoddaaDoor
