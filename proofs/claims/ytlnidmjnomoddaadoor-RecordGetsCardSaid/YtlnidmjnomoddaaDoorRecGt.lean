/- RecordGets: true. No condition but the tables. -/
import Derived.Test.YtlnidmjnomoddaaDoorRecG2
import Derived.Test.YtlnidmjnomoddaaDoorRecQ1
namespace Go.Proofs.YtlnidmjnomoddaaDoor
open Go.RowKit

/-- a row of bytes, whatever they are -/
def Ints (cs : Array Value) (n : Nat) : Prop := cs.size = n ∧ ∀ j, j < n → ∃ z : Int, cs[j]? = some (.int .u8 z)
theorem Ints.set {cs : Array Value} {n : Nat} (h : Ints cs n) (i : Nat) (z : Int) : Ints (cs.setIfInBounds i (.int .u8 z)) n := by
  refine ⟨by simp [h.1], fun j hj => ?_⟩
  by_cases he : i = j
  · subst he
    exact ⟨z, by rw [Array.getElem?_setIfInBounds_self_of_lt (by rw [h.1]; exact hj)]⟩
  · obtain ⟨y, hy⟩ := h.2 j hj
    exact ⟨y, by rw [Array.getElem?_setIfInBounds_ne he]; exact hy⟩
theorem Ints.of_bytes (l : List UInt8) {n : Nat} (h : l.length = n) : Ints (bcells l).toArray n := by
  refine ⟨by simp [bcells_len, h], fun j hj => ?_⟩
  have hj : j < l.length := by omega
  exact ⟨_, by rw [List.getElem?_toArray]; exact bcells_get hj⟩
theorem getS_ok {l : List UInt8} (h : (getS l).2 = 0) : 21 ≤ l.length ∧ sizeG l ≤ l.length := by
  unfold getS at h
  split at h
  · cases h
  · split at h
    · cases h
    · split at h
      · cases h
      · split at h
        · cases h
        · omega
def RetYes (l : List UInt8) (s : Nat) (w : World) (e : Ending) (w' : World) : Prop := ∃ gK gV, e = .returned (.tuple #[recV (numH l 3) (numH l 0 : Int) (.slice (some ⟨gK, 0, none⟩) (numH l 1) (numH l 1)) (.slice (some ⟨gV, 0, none⟩) (numH l 2) (numH l 2)) (numH l 4) (numH l 5), .int .i64 (s : Int), .int .i64 0]) ∧
  Blk w' gK 5 (bcells (keyG l)).toArray ∧ Blk w' gV 5 (bcells (valG l)).toArray ∧ gK ≠ gV ∧ w.heap.size ≤ gK ∧ w.heap.size ≤ gV ∧ Below w.heap.size w w'
theorem RetGet.none_ {l : List UInt8} {w w' : World} {e : Ending} {s c : Nat} (h : RetGet l w e w') (hS : getS l = (s, c)) (hc : c ≠ 0) : RetNone s c w e w' := by
  obtain ⟨h1 | h1, hb⟩ := h
  · rw [hS] at h1
    exact ⟨h1.2, hb⟩
  · rw [hS] at h1
    exact absurd h1.1 hc
theorem RetGet.yes_ {l : List UInt8} {w w' : World} {e : Ending} {s : Nat} (h : RetGet l w e w') (hS : getS l = (s, 0)) : RetYes l s w e w' := by
  obtain ⟨h1 | h1, hb⟩ := h
  · rw [hS] at h1
    exact absurd rfl h1.1
  · obtain ⟨_, gK, gV, he, h2, h3, h4, h5, h6⟩ := h1
    rw [hS] at he
    exact ⟨gK, gV, he, h2, h3, h4, h5, h6, hb⟩

set_option maxRecDepth 100000 in
set_option maxHeartbeats 4000000 in
theorem gets_walk (l0 : List UInt8) (A : Option Addr) (n c : Nat) (w : World) (hT : TabR w) (hnc : n ≤ c) (h : Rd w w.heap.size 1 A n (bcells l0)) :
    Calls Tryd.prog 3 #[.slice A n c] w fun e w' => e = .returned (.bool true) ∧ Below w.heap.size w w' := by
  have hln := h.1
  have hmx := h.2.1
  unfold maxLen at hmx
  rw [bcells_len, Nat.mul_one] at hln
  obtain ⟨x, hx⟩ : ∃ x, x = min n 1300 := ⟨_, rfl⟩
  have hxn : x ≤ n := by omega
  have hM : min (n : Int) 1300 = (x : Int) := by omega
  have ht := h.btake (k := x) hxn
  obtain ⟨l, hl⟩ : ∃ l, l = l0.take x := ⟨_, rfl⟩
  have hlx : l.length = x := by rw [hl, List.length_take]; omega
  rw [← hl] at ht
  have i1 : (x : Int) ≤ (c : Int) := by omega
  have i2 : x ≤ c := by omega
  have hx3 : x ≤ 1300 := by omega
  have HG := fun A c W hT' hnc' r => Lib.hid (getR_any l A x c W hT' hnc' r)
  have HR := fun A c W hnc' r => Lib.hid (rgetR_any l A x c W hnc' (by omega) r)
  have HLX := Lib.hid hlx
  have hb0 := Below.refl w.heap.size w
  clear hl hx hlx hln h
  go_enter Tryd.func3, Tryd.ntmps3
  go_upto_region 2 with (fail)
  go_wp2_with (at_builtin; refine wpList_app eltU8 rfl (.const (.slice none 0 0)) (.tmp 17) rfl rfl (World.ownsRow_nil w w.heap.size 5 1) rfl ht (bcells_one l) (by omega) (by unfold maxLen; omega) (Below.refl _ _) (Nat.le_refl _) ?_; intro v1 w1 o1 b1 g1 hg1)
  rw [Nat.zero_add, List.nil_append] at o1
  clear g1 hg1
  obtain ⟨A1, c1, rfl, hc1⟩ := own_cap o1
  have r1 := own_rd o1
  have ht := ht.after b1
  have hb0 := hb0.trans (b1.mono hb0.size)
  have hT := hT.below hb0 hT.1.1 hT.2.1
  clear o1 b1
  have rA := r1
  have tA := ht
  have TA := hT
  have b0A := hb0
  have hb1 := Below.refl w1.heap.size w1
  obtain ⟨⟨s, cd⟩, hSp⟩ : ∃ S, S = getS l := ⟨_, rfl⟩
  have hS := hSp.symm
  clear hSp
  have HS := Lib.hid hS
  clear hS
  by_cases hcd : cd = 0
  · subst hcd
    go_wp2_with fail
    refine ((HG _ _ _ hT hc1 r1).out.mono (fun _ _ h => h.yes_ HS.out)).mono ?_
    rintro e w2 ⟨gK, gV, rfl, qK, qV, nKV, bK, bV, b2⟩
    have hbG : Below w1.heap.size w1 w2 := b2
    have r1 := r1.after b2
    have ht := ht.after b2
    have hT := hT.after b2
    have hb0 := hb0.trans (b2.mono hb0.size)
    have hb1 := hb1.trans (b2.mono hb1.size)
    clear b2
    have lK := qK.lt
    have lV := qV.lt
    have kl : (keyG l).length = numH l 1 := by have := getS_ok (by rw [HS.out]); unfold keyG; unfold sizeG at this; rw [List.length_take, List.length_drop]; omega
    have vl : (valG l).length = numH l 2 := by have := getS_ok (by rw [HS.out]); unfold valG; unfold sizeG at this; rw [List.length_take, List.length_drop]; omega
    have kb := numH_lt (l := l) (by have := getS_ok (by rw [HS.out]); omega) (j := 1) (by omega)
    have vb := numH_lt (l := l) (by have := getS_ok (by rw [HS.out]); omega) (j := 2) (by omega)
    simp only [sizeC, sizesC, List.getD_cons_zero, List.getD_cons_succ, Nat.reduceMul, Nat.reducePow] at kb vb
    generalize hn_kd : numH l 0 = kd at *
    generalize hn_nk : numH l 1 = nk at *
    generalize hn_nv : numH l 2 = nv at *
    generalize hn_sq : numH l 3 = sq at *
    generalize hn_sg : numH l 4 = sg at *
    generalize hn_of : numH l 5 = of at *
    generalize hkG : keyG l = ka at *
    generalize hvG : valG l = vb at *
    have rK := qK.rd (n := nk) (size := 1) (by simp [bcells_len, kl]) (by unfold maxLen; omega)
    have rV := qV.rd (n := nv) (size := 1) (by simp [bcells_len, vl]) (by unfold maxLen; omega)
    have KL := Lib.hid kl
    have VL := Lib.hid vl
    clear kl vl
    unfold recV
    go_wp2_with fail
    have q4 := Blk.new w2 28 #[.int .u64 (sq : Int), .int .i64 (kd : Int), .slice (some ⟨gK, 0, none⟩) nk nk, .slice (some ⟨gV, 0, none⟩) nv nv, .int .u32 (sg : Int), .int .u32 (of : Int)]
    have hz4 : w2.heap.size < (w2.alloc (.cells #[.int .u64 (sq : Int), .int .i64 (kd : Int), .slice (some ⟨gK, 0, none⟩) nk nk, .slice (some ⟨gV, 0, none⟩) nv nv, .int .u32 (sg : Int), .int .u32 (of : Int)] 28)).heap.size := by simp
    have qK := qK.alloc (.cells #[.int .u64 (sq : Int), .int .i64 (kd : Int), .slice (some ⟨gK, 0, none⟩) nk nk, .slice (some ⟨gV, 0, none⟩) nv nv, .int .u32 (sg : Int), .int .u32 (of : Int)] 28)
    have qV := qV.alloc (.cells #[.int .u64 (sq : Int), .int .i64 (kd : Int), .slice (some ⟨gK, 0, none⟩) nk nk, .slice (some ⟨gV, 0, none⟩) nv nv, .int .u32 (sg : Int), .int .u32 (of : Int)] 28)
    have r1 := r1.allocs (.cells #[.int .u64 (sq : Int), .int .i64 (kd : Int), .slice (some ⟨gK, 0, none⟩) nk nk, .slice (some ⟨gV, 0, none⟩) nv nv, .int .u32 (sg : Int), .int .u32 (of : Int)] 28)
    have ht := ht.allocs (.cells #[.int .u64 (sq : Int), .int .i64 (kd : Int), .slice (some ⟨gK, 0, none⟩) nk nk, .slice (some ⟨gV, 0, none⟩) nv nv, .int .u32 (sg : Int), .int .u32 (of : Int)] 28)
    have rK := rK.allocs (.cells #[.int .u64 (sq : Int), .int .i64 (kd : Int), .slice (some ⟨gK, 0, none⟩) nk nk, .slice (some ⟨gV, 0, none⟩) nv nv, .int .u32 (sg : Int), .int .u32 (of : Int)] 28)
    have rV := rV.allocs (.cells #[.int .u64 (sq : Int), .int .i64 (kd : Int), .slice (some ⟨gK, 0, none⟩) nk nk, .slice (some ⟨gV, 0, none⟩) nv nv, .int .u32 (sg : Int), .int .u32 (of : Int)] 28)
    have hb1 := hb1.alloc hb1.size (.cells #[.int .u64 (sq : Int), .int .i64 (kd : Int), .slice (some ⟨gK, 0, none⟩) nk nk, .slice (some ⟨gV, 0, none⟩) nv nv, .int .u32 (sg : Int), .int .u32 (of : Int)] 28)
    have hT := hT.alloc (.cells #[.int .u64 (sq : Int), .int .i64 (kd : Int), .slice (some ⟨gK, 0, none⟩) nk nk, .slice (some ⟨gV, 0, none⟩) nv nv, .int .u32 (sg : Int), .int .u32 (of : Int)] 28)
    have hb0 := belowAlloc hb0 (.cells #[.int .u64 (sq : Int), .int .i64 (kd : Int), .slice (some ⟨gK, 0, none⟩) nk nk, .slice (some ⟨gV, 0, none⟩) nv nv, .int .u32 (sg : Int), .int .u32 (of : Int)] 28)
    obtain ⟨g4, hg4⟩ : ∃ g, g = w2.heap.size := ⟨_, rfl⟩
    rw [← hg4] at q4 hz4 ⊢
    have z4 : w1.heap.size ≤ g4 := by have := hbG.size; omega
    have nK4 : gK ≠ g4 := by omega
    have nV4 : gV ≠ g4 := by omega
    clear lK lV
    clear hg4 hbG
    generalize w2.alloc (.cells #[.int .u64 (sq : Int), .int .i64 (kd : Int), .slice (some ⟨gK, 0, none⟩) nk nk, .slice (some ⟨gV, 0, none⟩) nv nv, .int .u32 (sg : Int), .int .u32 (of : Int)] 28) = w3 at *
    refine ((HR _ _ _ i2 ht).out.mono (fun _ _ h => h.yes_ HS.out)).mono ?_
    rintro e w4 ⟨gX, gY, rfl, qX, qY, nXY, bX, bY, b2⟩
    rw [hn_kd] at *
    rw [hn_nk] at *
    rw [hn_nv] at *
    rw [hn_sq] at *
    rw [hn_sg] at *
    rw [hn_of] at *
    have r1 := r1.after b2
    have ht := ht.after b2
    have hT := hT.after b2
    have qK := qK.after b2
    have qV := qV.after b2
    have rK := rK.after b2
    have rV := rV.after b2
    have q4 := q4.after b2
    have hb0 := hb0.trans (b2.mono hb0.size)
    have hb1 := hb1.trans (b2.mono hb1.size)
    clear b2
    rw [hkG] at qX
    rw [hvG] at qY
    have rX := qX.rd (n := nk) (size := 1) (by simp [bcells_len, KL.out]) (by unfold maxLen; omega)
    have rY := qY.rd (n := nv) (size := 1) (by simp [bcells_len, VL.out]) (by unfold maxLen; omega)
    have hX := fun W h1 h2 h3 h4 => Lib.hid (rsameR_any sq (kd : Int) ka vb (some ⟨gK, 0, none⟩) nk nk (some ⟨gV, 0, none⟩) nv nv sg of sq (kd : Int) ka vb (some ⟨gX, 0, none⟩) nk nk (some ⟨gY, 0, none⟩) nv nv sg of W h1 h2 h3 h4)
    rw [show sameR sq (kd : Int) ka vb sg of sq (kd : Int) ka vb sg of = true by unfold sameR; simp] at hX
    clear hn_kd hn_nk hn_nv hn_sq hn_sg hn_of hkG hvG qX qY bX bY nXY
    unfold recV at hX ⊢
    clear HG HR
    go_upto_region 5 with (fail)
    have q7 := Blk.new w4 28 #[.int .u64 (sq : Int), .int .i64 (kd : Int), .slice (some ⟨gX, 0, none⟩) nk nk, .slice (some ⟨gY, 0, none⟩) nv nv, .int .u32 (sg : Int), .int .u32 (of : Int)]
    have qK := qK.alloc (.cells #[.int .u64 (sq : Int), .int .i64 (kd : Int), .slice (some ⟨gX, 0, none⟩) nk nk, .slice (some ⟨gY, 0, none⟩) nv nv, .int .u32 (sg : Int), .int .u32 (of : Int)] 28)
    have qV := qV.alloc (.cells #[.int .u64 (sq : Int), .int .i64 (kd : Int), .slice (some ⟨gX, 0, none⟩) nk nk, .slice (some ⟨gY, 0, none⟩) nv nv, .int .u32 (sg : Int), .int .u32 (of : Int)] 28)
    have q4 := q4.alloc (.cells #[.int .u64 (sq : Int), .int .i64 (kd : Int), .slice (some ⟨gX, 0, none⟩) nk nk, .slice (some ⟨gY, 0, none⟩) nv nv, .int .u32 (sg : Int), .int .u32 (of : Int)] 28)
    have rK := rK.allocs (.cells #[.int .u64 (sq : Int), .int .i64 (kd : Int), .slice (some ⟨gX, 0, none⟩) nk nk, .slice (some ⟨gY, 0, none⟩) nv nv, .int .u32 (sg : Int), .int .u32 (of : Int)] 28)
    have rV := rV.allocs (.cells #[.int .u64 (sq : Int), .int .i64 (kd : Int), .slice (some ⟨gX, 0, none⟩) nk nk, .slice (some ⟨gY, 0, none⟩) nv nv, .int .u32 (sg : Int), .int .u32 (of : Int)] 28)
    have rX := rX.allocs (.cells #[.int .u64 (sq : Int), .int .i64 (kd : Int), .slice (some ⟨gX, 0, none⟩) nk nk, .slice (some ⟨gY, 0, none⟩) nv nv, .int .u32 (sg : Int), .int .u32 (of : Int)] 28)
    have rY := rY.allocs (.cells #[.int .u64 (sq : Int), .int .i64 (kd : Int), .slice (some ⟨gX, 0, none⟩) nk nk, .slice (some ⟨gY, 0, none⟩) nv nv, .int .u32 (sg : Int), .int .u32 (of : Int)] 28)
    have r1 := r1.allocs (.cells #[.int .u64 (sq : Int), .int .i64 (kd : Int), .slice (some ⟨gX, 0, none⟩) nk nk, .slice (some ⟨gY, 0, none⟩) nv nv, .int .u32 (sg : Int), .int .u32 (of : Int)] 28)
    have ht := ht.allocs (.cells #[.int .u64 (sq : Int), .int .i64 (kd : Int), .slice (some ⟨gX, 0, none⟩) nk nk, .slice (some ⟨gY, 0, none⟩) nv nv, .int .u32 (sg : Int), .int .u32 (of : Int)] 28)
    have hb1 := hb1.alloc hb1.size (.cells #[.int .u64 (sq : Int), .int .i64 (kd : Int), .slice (some ⟨gX, 0, none⟩) nk nk, .slice (some ⟨gY, 0, none⟩) nv nv, .int .u32 (sg : Int), .int .u32 (of : Int)] 28)
    have hT := hT.alloc (.cells #[.int .u64 (sq : Int), .int .i64 (kd : Int), .slice (some ⟨gX, 0, none⟩) nk nk, .slice (some ⟨gY, 0, none⟩) nv nv, .int .u32 (sg : Int), .int .u32 (of : Int)] 28)
    have hb0 := belowAlloc hb0 (.cells #[.int .u64 (sq : Int), .int .i64 (kd : Int), .slice (some ⟨gX, 0, none⟩) nk nk, .slice (some ⟨gY, 0, none⟩) nv nv, .int .u32 (sg : Int), .int .u32 (of : Int)] 28)
    obtain ⟨g7, hg7⟩ : ∃ g, g = w4.heap.size := ⟨_, rfl⟩
    rw [← hg7] at q7 ⊢
    clear hg7
    generalize w4.alloc (.cells #[.int .u64 (sq : Int), .int .i64 (kd : Int), .slice (some ⟨gX, 0, none⟩) nk nk, .slice (some ⟨gY, 0, none⟩) nv nv, .int .u32 (sg : Int), .int .u32 (of : Int)] 28) = w5 at *
    have c40 := q4.cell 0
    have c41 := q4.cell 1
    have c42 := q4.cell 2
    have c43 := q4.cell 3
    have c44 := q4.cell 4
    have c45 := q4.cell 5
    have c70 := q7.cell 0
    have c71 := q7.cell 1
    have c72 := q7.cell 2
    have c73 := q7.cell 3
    have c74 := q7.cell 4
    have c75 := q7.cell 5
    go_wp2_with fail
    refine (hX _ rK rV rX rY).out.mono ?_
    rintro e w6 ⟨rfl, b6⟩
    clear c40 c41 c42 c43 c44 c45 c70 c71 c72 c73 c74 c75
    have qK := qK.after b6
    have qV := qV.after b6
    have q4 := q4.after b6
    have r1 := r1.after b6
    have ht := ht.after b6
    have hT := hT.after b6
    have hb0 := hb0.trans (b6.mono hb0.size)
    have hb1 := hb1.trans (b6.mono hb1.size)
    clear b6
    clear hX q7 rK rV rX rY
    go_wp2_with fail
    have eK : ∃ cs, Ints cs nk ∧ Blk w6 gK 5 cs := ⟨_, Ints.of_bytes ka KL.out, qK⟩
    have eV : ∃ cs, Ints cs nv ∧ Blk w6 gV 5 cs := ⟨_, Ints.of_bytes vb VL.out, qV⟩
    clear qK qV
    have c4 := q4.cell 2
    go_loopw [10] (fun i wr => ∃ j : Nat, j ≤ nk ∧ i = .int .i64 (j : Int) ∧ (∃ cs, Ints cs nk ∧ Blk wr gK 5 cs) ∧ (∃ cs, Ints cs nv ∧ Blk wr gV 5 cs) ∧ Blk wr g4 28 #[.int .u64 (sq : Int), .int .i64 (kd : Int), .slice (some ⟨gK, 0, none⟩) nk nk, .slice (some ⟨gV, 0, none⟩) nv nv, .int .u32 (sg : Int), .int .u32 (of : Int)] ∧ Below w1.heap.size w6 wr) (fun i _ => nk - (intOf i).toNat)
    case atStart => exact ⟨0, by omega, rfl, eK, eV, q4, Below.refl _ _⟩
    case round =>
      obtain ⟨j, hj, rfl, eK, eV, q4, hbz⟩ := hrel
      by_cases hjn : j < nk
      · have i7 : (j : Int) < (nk : Int) := by omega
        obtain ⟨csK, iK, qK⟩ := eK
        obtain ⟨csV, iV, qV⟩ := eV
        obtain ⟨zz, hzz⟩ := iK.2 j hjn
        have hcy := qK.cell j
        rw [hzz] at hcy
        have hfy := qK.frozen j
        have c4 := q4.cell 2
        clear hzz
        go_wp2_with fail
        go_roundw
        case rel => exact ⟨j + 1, by omega, by go_num, ⟨_, iK.set j _, qK.set_ j _⟩, ⟨_, iV, qV.far (p := ⟨gK, j, none⟩) nKV.symm _⟩, q4.far (p := ⟨gK, j, none⟩) (Ne.symm nK4) _, hbz.setCell (p := ⟨gK, j, none⟩) bK _⟩
        case measure => simp [intOf]; omega
      · obtain rfl : nk = j := by omega
        have c4 := q4.cell 2
        go_wp2_with fail
        have hb1 := hb1.trans hbz
        clear c4
        have c4 := q4.cell 3
        go_loopw [11] (fun i wz => ∃ j : Nat, j ≤ nv ∧ i = .int .i64 (j : Int) ∧ (∃ cs, Ints cs nk ∧ Blk wz gK 5 cs) ∧ (∃ cs, Ints cs nv ∧ Blk wz gV 5 cs) ∧ Blk wz g4 28 #[.int .u64 (sq : Int), .int .i64 (kd : Int), .slice (some ⟨gK, 0, none⟩) nk nk, .slice (some ⟨gV, 0, none⟩) nv nv, .int .u32 (sg : Int), .int .u32 (of : Int)] ∧ Below w1.heap.size wr wz) (fun i _ => nv - (intOf i).toNat)
        case atStart => exact ⟨0, by omega, rfl, eK, eV, q4, Below.refl _ _⟩
        case round =>
          obtain ⟨j, hj, rfl, eK, eV, q4, hbz⟩ := hrel
          by_cases hjn : j < nv
          · have i7 : (j : Int) < (nv : Int) := by omega
            obtain ⟨csK, iK, qK⟩ := eK
            obtain ⟨csV, iV, qV⟩ := eV
            obtain ⟨zz, hzz⟩ := iV.2 j hjn
            have hcy := qV.cell j
            rw [hzz] at hcy
            have hfy := qV.frozen j
            have c4 := q4.cell 3
            clear hzz
            go_wp2_with fail
            go_roundw
            case rel => exact ⟨j + 1, by omega, by go_num, ⟨_, iK, qK.far (p := ⟨gV, j, none⟩) nKV _⟩, ⟨_, iV.set j _, qV.set_ j _⟩, q4.far (p := ⟨gV, j, none⟩) (Ne.symm nV4) _, hbz.setCell (p := ⟨gV, j, none⟩) bV _⟩
            case measure => simp [intOf]; omega
          · obtain rfl : nv = j := by omega
            have c4 := q4.cell 3
            have hb1 := hb1.trans hbz
            have r1 := (rA.below hb1 (Nat.le_refl _)).more hb1.size
            have ht := (tA.below hb1 (Nat.le_refl _)).more hb1.size
            have hT := TA.below hb1 TA.1.1 TA.2.1
            have hb0 := b0A.trans (hb1.mono b0A.size)
            have f1 := run_conv (P := Tryd.prog) Tryd.underlying22 Tryd.underlying5 Tryd.underlying9 c1 r1
            have f2 := run_conv (P := Tryd.prog) Tryd.underlying22 Tryd.underlying5 Tryd.underlying9 c ht
            generalize (⟨l.toArray⟩ : ByteArray) = S at *
            go_wp2_with fail
            refine (knows_any _ hT).mono ?_
            rintro e w9 ⟨rfl, b⟩
            go_wp2_with fail
            go_ret
            exact ⟨rfl, hb0.trans (b.mono hb0.size)⟩
  · skip
    go_wp2_with fail
    refine ((HG _ _ _ hT hc1 r1).out.mono (fun _ _ h => h.none_ HS.out hcd)).mono ?_
    rintro e w2 ⟨rfl, b2⟩
    have hbG : Below w1.heap.size w1 w2 := b2
    have r1 := r1.after b2
    have ht := ht.after b2
    have hT := hT.after b2
    have hb0 := hb0.trans (b2.mono hb0.size)
    have hb1 := hb1.trans (b2.mono hb1.size)
    clear b2
    unfold recV
    go_wp2_with fail
    have q4 := Blk.new w2 28 #[.int .u64 0, .int .i64 0, .slice none 0 0, .slice none 0 0, .int .u32 0, .int .u32 0]
    have hz4 : w2.heap.size < (w2.alloc (.cells #[.int .u64 0, .int .i64 0, .slice none 0 0, .slice none 0 0, .int .u32 0, .int .u32 0] 28)).heap.size := by simp
    have r1 := r1.allocs (.cells #[.int .u64 0, .int .i64 0, .slice none 0 0, .slice none 0 0, .int .u32 0, .int .u32 0] 28)
    have ht := ht.allocs (.cells #[.int .u64 0, .int .i64 0, .slice none 0 0, .slice none 0 0, .int .u32 0, .int .u32 0] 28)
    have hb1 := hb1.alloc hb1.size (.cells #[.int .u64 0, .int .i64 0, .slice none 0 0, .slice none 0 0, .int .u32 0, .int .u32 0] 28)
    have hT := hT.alloc (.cells #[.int .u64 0, .int .i64 0, .slice none 0 0, .slice none 0 0, .int .u32 0, .int .u32 0] 28)
    have hb0 := belowAlloc hb0 (.cells #[.int .u64 0, .int .i64 0, .slice none 0 0, .slice none 0 0, .int .u32 0, .int .u32 0] 28)
    obtain ⟨g4, hg4⟩ : ∃ g, g = w2.heap.size := ⟨_, rfl⟩
    rw [← hg4] at q4 hz4 ⊢
    have z4 : w1.heap.size ≤ g4 := by have := hbG.size; omega
    clear hg4 hbG
    generalize w2.alloc (.cells #[.int .u64 0, .int .i64 0, .slice none 0 0, .slice none 0 0, .int .u32 0, .int .u32 0] 28) = w3 at *
    refine ((HR _ _ _ i2 ht).out.mono (fun _ _ h => h.none_ HS.out hcd)).mono ?_
    rintro e w4 ⟨rfl, b2⟩
    have r1 := r1.after b2
    have ht := ht.after b2
    have hT := hT.after b2
    have q4 := q4.after b2
    have hb0 := hb0.trans (b2.mono hb0.size)
    have hb1 := hb1.trans (b2.mono hb1.size)
    clear b2
    have hX := fun W => Lib.hid (rsameR_any 0 0 [] [] none 0 0 none 0 0 0 0 0 0 [] [] none 0 0 none 0 0 0 0 W (Rd.nil_ _ _ _ _) (Rd.nil_ _ _ _ _) (Rd.nil_ _ _ _ _) (Rd.nil_ _ _ _ _))
    rw [show sameR 0 0 [] [] 0 0 0 0 [] [] 0 0 = true by decide] at hX
    unfold recV at hX ⊢
    clear HG HR
    go_upto_region 5 with (fail)
    have q7 := Blk.new w4 28 #[.int .u64 0, .int .i64 0, .slice none 0 0, .slice none 0 0, .int .u32 0, .int .u32 0]
    have q4 := q4.alloc (.cells #[.int .u64 0, .int .i64 0, .slice none 0 0, .slice none 0 0, .int .u32 0, .int .u32 0] 28)
    have r1 := r1.allocs (.cells #[.int .u64 0, .int .i64 0, .slice none 0 0, .slice none 0 0, .int .u32 0, .int .u32 0] 28)
    have ht := ht.allocs (.cells #[.int .u64 0, .int .i64 0, .slice none 0 0, .slice none 0 0, .int .u32 0, .int .u32 0] 28)
    have hb1 := hb1.alloc hb1.size (.cells #[.int .u64 0, .int .i64 0, .slice none 0 0, .slice none 0 0, .int .u32 0, .int .u32 0] 28)
    have hT := hT.alloc (.cells #[.int .u64 0, .int .i64 0, .slice none 0 0, .slice none 0 0, .int .u32 0, .int .u32 0] 28)
    have hb0 := belowAlloc hb0 (.cells #[.int .u64 0, .int .i64 0, .slice none 0 0, .slice none 0 0, .int .u32 0, .int .u32 0] 28)
    obtain ⟨g7, hg7⟩ : ∃ g, g = w4.heap.size := ⟨_, rfl⟩
    rw [← hg7] at q7 ⊢
    clear hg7
    generalize w4.alloc (.cells #[.int .u64 0, .int .i64 0, .slice none 0 0, .slice none 0 0, .int .u32 0, .int .u32 0] 28) = w5 at *
    have c40 := q4.cell 0
    have c41 := q4.cell 1
    have c42 := q4.cell 2
    have c43 := q4.cell 3
    have c44 := q4.cell 4
    have c45 := q4.cell 5
    have c70 := q7.cell 0
    have c71 := q7.cell 1
    have c72 := q7.cell 2
    have c73 := q7.cell 3
    have c74 := q7.cell 4
    have c75 := q7.cell 5
    go_wp2_with fail
    refine (hX _).out.mono ?_
    rintro e w6 ⟨rfl, b6⟩
    clear c40 c41 c42 c43 c44 c45 c70 c71 c72 c73 c74 c75
    have q4 := q4.after b6
    have r1 := r1.after b6
    have ht := ht.after b6
    have hT := hT.after b6
    have hb0 := hb0.trans (b6.mono hb0.size)
    have hb1 := hb1.trans (b6.mono hb1.size)
    clear b6
    clear hX q7
    have c42 := q4.cell 2
    have c43 := q4.cell 3
    go_wp2_with fail
    go_loopw [10] (fun i wr => i = .int .i64 0 ∧ wr = w6) (fun _ _ => 0)
    case atStart => exact ⟨rfl, rfl⟩
    case round =>
      obtain ⟨rfl, rfl⟩ := hrel
      go_wp2_with fail
      go_loopw [11] (fun i wz => i = .int .i64 0 ∧ wz = wr) (fun _ _ => 0)
      case atStart => exact ⟨rfl, rfl⟩
      case round =>
        obtain ⟨rfl, rfl⟩ := hrel
        have f1 := run_conv (P := Tryd.prog) Tryd.underlying22 Tryd.underlying5 Tryd.underlying9 c1 r1
        have f2 := run_conv (P := Tryd.prog) Tryd.underlying22 Tryd.underlying5 Tryd.underlying9 c ht
        generalize (⟨l.toArray⟩ : ByteArray) = S at *
        go_wp2_with fail
        refine (knows_any _ hT).mono ?_
        rintro e w9 ⟨rfl, b⟩
        go_wp2_with fail
        go_ret
        exact ⟨rfl, hb0.trans (b.mono hb0.size)⟩
end Go.Proofs.YtlnidmjnomoddaaDoor
