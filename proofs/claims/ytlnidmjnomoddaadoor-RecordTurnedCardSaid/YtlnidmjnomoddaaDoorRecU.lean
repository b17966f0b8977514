/- RecordTurned: true. No condition but the tables. -/
import Derived.Test.YtlnidmjnomoddaaDoorRecM
import Derived.Test.YtlnidmjnomoddaaDoorRecU0
import Derived.Deep.DeepCutAuto
namespace Go.Proofs.YtlnidmjnomoddaaDoor
open Go.RowKit

set_option maxRecDepth 100000 in
set_option maxHeartbeats 8000000 in
theorem turned_walk (q : Nat) (k : Int) (a b : List UInt8) (A : Option Addr) (n c : Nat) (B : Option Addr) (m d : Nat) (s o : Nat) (at_ by_ : Nat) (l : List UInt8) (Al : Option Addr) (nl cl : Nat) (w : World) (hT : TabR w)
    (hnc : n ≤ c) (hmd : m ≤ d) (ha : Rd w w.heap.size 1 A n (bcells a)) (hb : Rd w w.heap.size 1 B m (bcells b)) (hq : q < 18446744073709551616) (hs : s < 4294967296) (ho : o < 4294967296) (hat : at_ < 4294967296) (hby : by_ < 4294967296)
    (hlc : nl ≤ cl) (hl : Rd w w.heap.size 1 Al nl (bcells l)) :
    Calls Tryd.prog 6 #[recV q k (.slice A n c) (.slice B m d) s o, .int .u32 (at_ : Int), .int .u32 (by_ : Int), .slice Al nl cl] w fun e w' => e = .returned (.bool true) ∧ Below w.heap.size w w' := by
  have hll := hl.1
  have hml := hl.2.1
  unfold maxLen at hml
  rw [bcells_len, Nat.mul_one] at hll
  obtain ⟨x, hx⟩ : ∃ x, x = min nl 100 := ⟨_, rfl⟩
  have hMx : min (nl : Int) 100 = (x : Int) := by omega
  have hxl : x ≤ nl := by omega
  have hx100 : x ≤ 100 := by omega
  have hxc : (x : Int) ≤ (cl : Int) := by omega
  have hxc2 : x ≤ cl := by omega
  clear hx hll
  have hT0 := Lib.hid hT
  have hm := made_may q k a b s o
  have HMd := fun W hB0 r1 r2 => Lib.hid (made_any q k a b A n c B m d s o W hnc hmd w.heap.size hB0 r1 r2 hq hs ho)
  unfold recV at HMd
  generalize seqM q = sq at *
  generalize kindM k = kd at *
  generalize segM s = sg at *
  generalize offM s o = of at *
  generalize keyM a = ka at *
  generalize valM k b = vb at *
  unfold RetRecV recV at HMd
  obtain ⟨nk, hnk⟩ : ∃ nk, nk = ka.length := ⟨_, rfl⟩
  obtain ⟨nv, hnv⟩ : ∃ nv, nv = vb.length := ⟨_, rfl⟩
  have HMM := Lib.hid hm
  rw [← hnk, ← hnv] at HMd hm
  obtain ⟨L, hL⟩ : ∃ L, L = 25 + nk + nv := ⟨_, rfl⟩
  obtain ⟨z1, z2, z3, z4, z5, z6, _⟩ := mayR_bounds hm
  have hL1 : L ≤ 1113 := by omega
  have hL2 : 26 ≤ L := by omega
  obtain ⟨R, hR⟩ : ∃ R, R = runR sq kd ka vb sg of := ⟨_, rfl⟩
  have hRl : R.length = L := by rw [hR, runR_len, ← hnk, ← hnv, hL]
  have HPt := fun A c B d W hT' r1 r2 => Lib.hid (putR_yes sq kd ka vb A nk c B nv d sg of W hT' hm r1 r2)
  rw [← hR, ← hL] at HPt
  have HS0 := fun W => Lib.hid (sameR_any 0 0 [] [] none 0 0 none 0 0 0 0 0 0 [] [] none 0 0 none 0 0 0 0 W (Rd.nil_ _ _ _ _) (Rd.nil_ _ _ _ _) (Rd.nil_ _ _ _ _) (Rd.nil_ _ _ _ _))
  rw [show sameR 0 0 [] [] 0 0 0 0 [] [] 0 0 = true by decide] at HS0
  unfold recV at HPt HS0
  have HRL := Lib.hid hRl
  have HRR := Lib.hid hR
  clear hRl hnk hnv hL hR hm z1 z2 z3 z4 z5 z6
  have eb := or1_u32 by_ hby
  obtain ⟨M, hM⟩ : ∃ M, M = by_ / 2 * 2 + 1 := ⟨_, rfl⟩
  have hMl : M < 4294967296 := by omega
  have hM2 : M % 2 = 1 := by omega
  rw [← hM] at eb
  have HM2 := Lib.hid hM2
  have HEB := Lib.hid eb
  clear hM hM2 eb
  obtain ⟨ft, hft⟩ : ∃ f : Nat, f = at_ % (8 * L) := ⟨_, rfl⟩
  have hftl : ft < 8 * L := by rw [hft]; exact Nat.mod_lt _ (by omega)
  have eft : (at_ : Int) % (8 * (L : Int)) = (ft : Int) := by rw [hft]; simp
  have HFT := Lib.hid eft
  clear hft eft
  unfold recV
  have q3 := Blk.new w 28 #[.int .u64 (q : Int), .int .i64 k, .slice A n c, .slice B m d, .int .u32 (s : Int), .int .u32 (o : Int)]
  have hbw := (Below.refl w.heap.size w).alloc (Nat.le_refl _) (.cells #[.int .u64 (q : Int), .int .i64 k, .slice A n c, .slice B m d, .int .u32 (s : Int), .int .u32 (o : Int)] 28)
  go_enter Tryd.func6, Tryd.ntmps6
  go_wp2_with fail
  generalize w.alloc (.cells #[.int .u64 (q : Int), .int .i64 k, .slice A n c, .slice B m d, .int .u32 (s : Int), .int .u32 (o : Int)] 28) = w0 at *
  refine (HMd _ hbw.size (ha.below hbw (Nat.le_refl _)) (hb.below hbw (Nat.le_refl _))).out.mono ?_
  rintro e w1 ⟨Ak, ck, Bk, dk, rfl, hck, hdk, rk, rv, b1⟩
  have y3 := q3.lt
  have q3 := q3.after b1
  have hbw := hbw.trans (b1.mono hbw.size)
  clear b1 HMd
  have c0 := q3.cell 0
  have f0 := q3.frozen 0
  have c1 := q3.cell 1
  have f1 := q3.frozen 1
  have c2 := q3.cell 2
  have f2 := q3.frozen 2
  have c3 := q3.cell 3
  have f3 := q3.frozen 3
  have c4 := q3.cell 4
  have f4 := q3.frozen 4
  have c5 := q3.cell 5
  have f5 := q3.frozen 5
  go_upto_region 2 with (fail)
  clear c0 c1 c2 c3 c4 c5 f0 f1 f2 f3 f4 f5
  have q3 : Blk (World.setCell (World.setCell (World.setCell (World.setCell (World.setCell (World.setCell w1 ⟨w.heap.size, 0, none⟩ (.int .u64 (sq : Int))) ⟨w.heap.size, 1, none⟩ (.int .i64 (kd : Int))) ⟨w.heap.size, 2, none⟩ (.slice Ak nk ck)) ⟨w.heap.size, 3, none⟩ (.slice Bk nv dk)) ⟨w.heap.size, 4, none⟩ (.int .u32 (sg : Int))) ⟨w.heap.size, 5, none⟩ (.int .u32 (of : Int))) (w.heap.size) 28 #[.int .u64 (sq : Int), .int .i64 (kd : Int), .slice Ak nk ck, .slice Bk nv dk, .int .u32 (sg : Int), .int .u32 (of : Int)] := ((((((q3.set_ 0 (.int .u64 (sq : Int))).set_ 1 (.int .i64 (kd : Int))).set_ 2 (.slice Ak nk ck)).set_ 3 (.slice Bk nv dk)).set_ 4 (.int .u32 (sg : Int))).set_ 5 (.int .u32 (of : Int)))
  have rk := ((((((rk.set_ (p := ⟨w.heap.size, 0, none⟩) (Nat.le_refl _) y3 (.int .u64 (sq : Int))).set_ (p := ⟨w.heap.size, 1, none⟩) (Nat.le_refl _) y3 (.int .i64 (kd : Int))).set_ (p := ⟨w.heap.size, 2, none⟩) (Nat.le_refl _) y3 (.slice Ak nk ck)).set_ (p := ⟨w.heap.size, 3, none⟩) (Nat.le_refl _) y3 (.slice Bk nv dk)).set_ (p := ⟨w.heap.size, 4, none⟩) (Nat.le_refl _) y3 (.int .u32 (sg : Int))).set_ (p := ⟨w.heap.size, 5, none⟩) (Nat.le_refl _) y3 (.int .u32 (of : Int)))
  have rv := ((((((rv.set_ (p := ⟨w.heap.size, 0, none⟩) (Nat.le_refl _) y3 (.int .u64 (sq : Int))).set_ (p := ⟨w.heap.size, 1, none⟩) (Nat.le_refl _) y3 (.int .i64 (kd : Int))).set_ (p := ⟨w.heap.size, 2, none⟩) (Nat.le_refl _) y3 (.slice Ak nk ck)).set_ (p := ⟨w.heap.size, 3, none⟩) (Nat.le_refl _) y3 (.slice Bk nv dk)).set_ (p := ⟨w.heap.size, 4, none⟩) (Nat.le_refl _) y3 (.int .u32 (sg : Int))).set_ (p := ⟨w.heap.size, 5, none⟩) (Nat.le_refl _) y3 (.int .u32 (of : Int)))
  have hbw := ((((((hbw.setCell (p := ⟨w.heap.size, 0, none⟩) (Nat.le_refl _) (.int .u64 (sq : Int))).setCell (p := ⟨w.heap.size, 1, none⟩) (Nat.le_refl _) (.int .i64 (kd : Int))).setCell (p := ⟨w.heap.size, 2, none⟩) (Nat.le_refl _) (.slice Ak nk ck)).setCell (p := ⟨w.heap.size, 3, none⟩) (Nat.le_refl _) (.slice Bk nv dk)).setCell (p := ⟨w.heap.size, 4, none⟩) (Nat.le_refl _) (.int .u32 (sg : Int))).setCell (p := ⟨w.heap.size, 5, none⟩) (Nat.le_refl _) (.int .u32 (of : Int)))
  have rk := rk.1
  have rv := rv.1
  generalize (World.setCell (World.setCell (World.setCell (World.setCell (World.setCell (World.setCell w1 ⟨w.heap.size, 0, none⟩ (.int .u64 (sq : Int))) ⟨w.heap.size, 1, none⟩ (.int .i64 (kd : Int))) ⟨w.heap.size, 2, none⟩ (.slice Ak nk ck)) ⟨w.heap.size, 3, none⟩ (.slice Bk nv dk)) ⟨w.heap.size, 4, none⟩ (.int .u32 (sg : Int))) ⟨w.heap.size, 5, none⟩ (.int .u32 (of : Int))) = w2 at *
  have hT := hT.below hbw hT.1.1 hT.2.1
  have c0 := q3.cell 0
  have c1 := q3.cell 1
  have c2 := q3.cell 2
  have c3 := q3.cell 3
  have c4 := q3.cell 4
  have c5 := q3.cell 5
  have hB7 := hbw.size
  go_wp2_with fail
  refine (HPt _ _ _ _ _ hT rk rv).out.mono ?_
  rintro e w3 ⟨v7, rfl, o7, b⟩
  obtain ⟨g7, c7, rfl, hc7, hg7⟩ := own_ptr o7 (by omega)
  clear HPt
  clear c0 c1 c2 c3 c4 c5
  have hbw := hbw.trans (b.mono hbw.size)
  have hs3 := b.size
  clear b q3 rk rv hT
  have i1 : ((L : Int) == 0) = false := by simp; omega
  have HEBo := HEB.out
  go_wp2_with fail
  rw [HFT.out]
  clear HEBo i1
  go_loopw [12] (fun i wr => ∃ k : Nat, k ≤ 32 ∧ ft + k ≤ 8 * L ∧ i = .int .i64 (k : Int) ∧ Below w2.heap.size w3 wr ∧ ∃ bl : List UInt8, Flip bl R M ft k ∧ Ow wr w2.heap.size 5 1 (.slice (some ⟨g7, 0, none⟩) L c7) L (bcells bl)) (fun i _ => 32 - (intOf i).toNat)
  case atStart => exact ⟨0, by omega, by omega, rfl, Below.refl _ _, R, Flip.zero _ _ _, o7⟩
  case round =>
    obtain ⟨k', hk, hkf, rfl, bz, bl, HF, oz⟩ := hrel
    by_cases hin : k' < 32 ∧ ft + k' < 8 * L
    · obtain ⟨h1, h2⟩ := hin
      have i2 : (ft : Int) + (k' : Int) < 8 * (L : Int) := by omega
      have i1 : (k' : Int) < 32 := by omega
      go_upto_region 10 with (fail)
      obtain ⟨qq, hqq⟩ : ∃ q : Nat, q = M / 2 ^ k' := ⟨_, rfl⟩
      have eq1 : (M : Int) / 2 ^ k' = (qq : Int) := by rw [hqq]; simp
      have hql : qq < 4294967296 := by rw [hqq]; exact Nat.lt_of_le_of_lt (Nat.div_le_self _ _) hMl
      have ea := and1_u32 qq hql
      by_cases hbit : qq % 2 = 1
      · have HF2 := fun j b hj hb8 he => Lib.hid (HF.set (by rw [← hqq]; exact hbit) j b hj hb8 he)
        rw [hbit] at ea
        clear hqq hbit
        go_wp2_with fail
        obtain ⟨j, hj⟩ : ∃ j : Nat, j = (ft + k') / 8 := ⟨_, rfl⟩
        obtain ⟨bb, hbb⟩ : ∃ b : Nat, b = (ft + k') % 8 := ⟨_, rfl⟩
        have ej : ((ft : Int) + (k' : Int)) / 8 = (j : Int) := by omega
        have ebb : ((ft : Int) + (k' : Int)) % 8 = (bb : Int) := by omega
        have hjL : j < L := by omega
        have hb8 : bb < 8 := by omega
        have hjl : j < bl.length := by rw [HF.len, HRL.out]; omega
        have HF3 := HF2 j bb hjl hb8 (by omega)
        clear HF2
        clear hj hbb
        have hcur : Below wr.heap.size wr wr.drew := ⟨rfl, rfl, rfl, Nat.le_refl _, fun _ _ => rfl⟩
        have oz := Ow.after oz hcur
        have rz := oz.rd
        have hcell := rz.cell rfl (by omega) (bcells_get hjl)
        rw [Nat.zero_add] at hcell
        have hfz := World.ownsRow.frozenAt oz j
        generalize bl[j]'hjl = u at *
        have ex := xor_bit u bb hb8
        obtain ⟨V, hV⟩ : ∃ V, V = UInt8.ofNat (u.toNat ^^^ 2 ^ bb) := ⟨_, rfl⟩
        rw [← hV] at ex HF3
        have HF2 := HF3
        clear hV HF3
        have hbz := bz.trans (hcur.mono (Nat.le_trans hs3 bz.size))
        refine wp_region_plan (fun _ => True) [.calms [0, 1, 2, 3, 4, 5, 7, 8, 9, 10, 11], .act 6, .calms [12, 13], .act 14] (by kernel_rfl) (by rfl) (by kernel_rfl) (by kernel_rfl) trivial ?_
        generalize wr.drew = wd at *
        clear hcur
        refine plan_calms (by simp [calmRow, need, chk]; rfl) ?_
        go_wp2_with fail
        refine plan_last (by rfl) (by kernel_rfl) ?_
        go_wp2_with fail
        refine plan_calms (by simp [calmRow, need, chk]; rfl) ?_
        go_wp2_with fail
        refine plan_last (by rfl) (by kernel_rfl) ?_
        go_wp2_with fail
        refine plan_end ?_
        have hst := (World.ownsRow.stored oz j (.int .u8 (V.toNat : Int))).1
        rw [bset_eq] at hst
        have hbs := hbz.setCell (p := ⟨g7, j, none⟩) hg7 (.int .u8 (V.toNat : Int))
        clear rz hfz hcell oz hbz
        generalize wd.setCell ⟨g7, j, none⟩ (.int .u8 (V.toNat : Int)) = we at *
        go_wp2_with fail
        go_roundw
        case rel => exact ⟨k' + 1, by omega, by omega, by go_num, hbs, bl.set j V, HF2.out, hst⟩
        case measure => simp [intOf]; omega
      · have hbit : qq % 2 = 0 := by omega
        have HF2 := Lib.hid (HF.skip (by rw [← hqq]; exact hbit))
        rw [hbit] at ea
        clear hqq hbit
        go_wp2_with fail
        go_roundw
        case rel => exact ⟨k' + 1, by omega, by omega, by go_num, bz, bl, HF2.out, oz⟩
        case measure => simp [intOf]; omega
    · have hk1 : 1 ≤ k' := by omega
      have G := fun T => flip_getS (T := T) HMM.out HRR.out HRL.out HF HM2.out hMl hk1 hkf
      have hbz := hbw.trans (bz.mono hB7)
      have hTr := TabR.below hT0.out hbz hT0.out.1.1 hT0.out.2.1
      have rl := ((hl.below hbz (Nat.le_refl _)).more hbz.size).btake (k := x) hxl
      have hszz := Nat.le_trans hs3 bz.size
      obtain ⟨want, hwant⟩ : ∃ want : Nat, want = if ft < 168 then 0 else L := ⟨_, rfl⟩
      rw [← hwant] at G
      have HG := fun A c W hT' hnc' r => Lib.hid (getR_none (bl ++ l.take x) A (L + x) c W hT' hnc' r want 23 (G _) (by decide))
      unfold RetNone recV at HG
      have HW := Lib.hid hwant
      clear G HF bz hwant
      by_cases h32 : k' < 32
      · have i1 : (k' : Int) < 32 := by omega
        have i2 : ¬ ((ft : Int) + (k' : Int) < 8 * (L : Int)) := by omega
        clear hin
        by_cases hf : ft < 168
        · exfalso
          omega
        · have i3 : ¬ (ft : Int) < 168 := by omega
          have ew : ((want : Int) == (L : Int)) = true := by have := HW.out; rw [if_neg hf] at this; simp [this]
          clear HW hf
          go_wp2_with (at_builtin; refine wpList_app eltU8 rfl (.tmp 76) (.tmp 81) rfl rfl oz rfl rl (bcells_one _) (by omega) (by unfold maxLen; omega) (Below.refl _ _) hszz ?_; intro va wa oa ba ga hga)
          rw [← bcells_append] at oa
          have hbz := below_of_grown hbz hbz.size (own_low oz hB7) ga
          obtain ⟨gy, cy, rfl, hcy, _⟩ := own_ptr oa (by omega)
          have ry := own_rd oa
          clear ba ga hga oa
          have hTa := TabR.below hT0.out hbz hT0.out.1.1 hT0.out.2.1
          refine (HG _ _ _ hTa hcy ry).out.mono ?_
          rintro e wb ⟨rfl, b⟩
          have hTa := hTa.after b
          have hbz := hbz.trans (b.mono hbz.size)
          clear b HG
          go_wp2_with fail
          have hbz := hbz.alloc hbz.size (.cells #[.int .u64 0, .int .i64 0, .slice none 0 0, .slice none 0 0, .int .u32 0, .int .u32 0] 28)
          have hTa := hTa.alloc (.cells #[.int .u64 0, .int .i64 0, .slice none 0 0, .slice none 0 0, .int .u32 0, .int .u32 0] 28)
          refine (HS0 _).out.mono ?_
          rintro e wc ⟨rfl, b⟩
          have hTa := hTa.after b
          have hbz := hbz.trans (b.mono hbz.size)
          clear b HS0
          go_wp2_with fail
          refine (knows_any _ hTa).mono ?_
          rintro e wk ⟨rfl, b⟩
          go_wp2_with fail
          go_ret
          exact ⟨rfl, hbz.trans (b.mono hbz.size)⟩
      · have i1 : ¬ ((k' : Int) < 32) := by omega
        clear hin
        by_cases hf : ft < 168
        · have i3 : (ft : Int) < 168 := by omega
          have ew : ((want : Int) == 0) = true := by have := HW.out; rw [if_pos hf] at this; simp [this]
          clear HW hf
          go_wp2_with (at_builtin; refine wpList_app eltU8 rfl (.tmp 76) (.tmp 81) rfl rfl oz rfl rl (bcells_one _) (by omega) (by unfold maxLen; omega) (Below.refl _ _) hszz ?_; intro va wa oa ba ga hga)
          rw [← bcells_append] at oa
          have hbz := below_of_grown hbz hbz.size (own_low oz hB7) ga
          obtain ⟨gy, cy, rfl, hcy, _⟩ := own_ptr oa (by omega)
          have ry := own_rd oa
          clear ba ga hga oa
          have hTa := TabR.below hT0.out hbz hT0.out.1.1 hT0.out.2.1
          refine (HG _ _ _ hTa hcy ry).out.mono ?_
          rintro e wb ⟨rfl, b⟩
          have hTa := hTa.after b
          have hbz := hbz.trans (b.mono hbz.size)
          clear b HG
          go_wp2_with fail
          have hbz := hbz.alloc hbz.size (.cells #[.int .u64 0, .int .i64 0, .slice none 0 0, .slice none 0 0, .int .u32 0, .int .u32 0] 28)
          have hTa := hTa.alloc (.cells #[.int .u64 0, .int .i64 0, .slice none 0 0, .slice none 0 0, .int .u32 0, .int .u32 0] 28)
          refine (HS0 _).out.mono ?_
          rintro e wc ⟨rfl, b⟩
          have hTa := hTa.after b
          have hbz := hbz.trans (b.mono hbz.size)
          clear b HS0
          go_wp2_with fail
          refine (knows_any _ hTa).mono ?_
          rintro e wk ⟨rfl, b⟩
          go_wp2_with fail
          go_ret
          exact ⟨rfl, hbz.trans (b.mono hbz.size)⟩
        · have i3 : ¬ (ft : Int) < 168 := by omega
          have ew : ((want : Int) == (L : Int)) = true := by have := HW.out; rw [if_neg hf] at this; simp [this]
          clear HW hf
          go_wp2_with (at_builtin; refine wpList_app eltU8 rfl (.tmp 76) (.tmp 81) rfl rfl oz rfl rl (bcells_one _) (by omega) (by unfold maxLen; omega) (Below.refl _ _) hszz ?_; intro va wa oa ba ga hga)
          rw [← bcells_append] at oa
          have hbz := below_of_grown hbz hbz.size (own_low oz hB7) ga
          obtain ⟨gy, cy, rfl, hcy, _⟩ := own_ptr oa (by omega)
          have ry := own_rd oa
          clear ba ga hga oa
          have hTa := TabR.below hT0.out hbz hT0.out.1.1 hT0.out.2.1
          refine (HG _ _ _ hTa hcy ry).out.mono ?_
          rintro e wb ⟨rfl, b⟩
          have hTa := hTa.after b
          have hbz := hbz.trans (b.mono hbz.size)
          clear b HG
          go_wp2_with fail
          have hbz := hbz.alloc hbz.size (.cells #[.int .u64 0, .int .i64 0, .slice none 0 0, .slice none 0 0, .int .u32 0, .int .u32 0] 28)
          have hTa := hTa.alloc (.cells #[.int .u64 0, .int .i64 0, .slice none 0 0, .slice none 0 0, .int .u32 0, .int .u32 0] 28)
          refine (HS0 _).out.mono ?_
          rintro e wc ⟨rfl, b⟩
          have hTa := hTa.after b
          have hbz := hbz.trans (b.mono hbz.size)
          clear b HS0
          go_wp2_with fail
          refine (knows_any _ hTa).mono ?_
          rintro e wk ⟨rfl, b⟩
          go_wp2_with fail
          go_ret
          exact ⟨rfl, hbz.trans (b.mono hbz.size)⟩
end Go.Proofs.YtlnidmjnomoddaaDoor
