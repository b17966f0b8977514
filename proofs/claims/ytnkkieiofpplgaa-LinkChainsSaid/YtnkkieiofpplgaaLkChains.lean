/- LinkChains: the walk. For every row of steps, every record whose Prev is changed, to whatever. -/
import Derived.Test.YtnkkieiofpplgaaLkGd
import Derived.Test.YtnkkieiofpplgaaLkKnows
import Derived.Test.YtnkkieiofpplgaaLkCh
import Derived.Test.YtnkkieiofpplgaaLkKeys
import Derived.Test.YtnkkieiofpplgaaLkHl
import Derived.Deep.CutBlock
namespace Go.Proofs.Ytnkkieiofpplgaa
open Go.RowKit
attribute [local go_sem] Oper.semAt_some

/-- which record is changed -/
def chK (n o : Nat) : Int := if n = 0 then -1 else ((o % n : Nat) : Int)
def wrO (k : Int) (d : List LR) (p : Nat × Nat) (j : Nat) : List (Nat × Nat) := ((d[k.toNat]?).map fun r => if 0 ≤ k ∧ k < (j : Int) ∧ r.pv ≠ p then [r.at_] else []).getD []
theorem wrO_0 (k : Int) (d : List LR) (p : Nat × Nat) : wrO k d p 0 = [] := by
  unfold wrO
  cases d[k.toNat]? with
  | none => rfl
  | some r =>
    have : ¬ (0 ≤ k ∧ k < ((0 : Nat) : Int) ∧ r.pv ≠ p) := by omega
    simp only [Option.map_some, Option.getD_some, if_neg this]
theorem wrO_step {k : Int} {d : List LR} {p : Nat × Nat} {j : Nat} {r : LR} (hr : d[j]? = some r) : wrO k d p (j + 1) = if k = (j : Int) then (if r.pv = p then wrO k d p j else wrO k d p j ++ [r.at_]) else wrO k d p j := by
  by_cases h : k = (j : Int)
  · subst h
    rw [if_pos rfl]
    unfold wrO
    rw [Int.toNat_natCast, hr]
    by_cases h2 : r.pv = p
    · rw [if_pos h2]
      simp [h2]
    · rw [if_neg h2]
      have h3 : ¬ ((j : Int) < (j : Int)) := by omega
      have h4 : (j : Int) < ((j + 1 : Nat) : Int) := by omega
      have h5 : (0 : Int) ≤ (j : Int) := by omega
      simp only [Option.map_some, Option.getD_some, h3, h4, h5, h2, ne_eq, not_false_eq_true, and_self, and_true, and_false, if_true, if_false, List.nil_append]
  · rw [if_neg h]
    unfold wrO
    congr 1
    congr 1
    funext r'
    by_cases h3 : 0 ≤ k ∧ k < (j : Int) ∧ r'.pv ≠ p
    · rw [if_pos h3, if_pos ⟨h3.1, by omega, h3.2.2⟩]
    · rw [if_neg h3, if_neg (fun h4 => h3 ⟨h4.1, by omega, h4.2.2⟩)]

set_option maxRecDepth 100000 in
set_option maxHeartbeats 16000000 in
theorem chains_walk (SB : ∀ (X : List KV) (v : Value) (B : Nat) (w : World), Ow w B 36 1 v X.length (X.map KV.v) → (∀ x ∈ X, x.ok w) → X.length ≤ 1000000 → Calls Try.prog 34 #[v, .func (.func 35) #[] #[]] w (RetSort X B v w))
    (l : List Stp) (A : Option Addr) (n c : Nat) (o : UInt8) (tp : Nat × Nat) (hto : LOk tp) (w : World) (hn : l.length = n) (hr : Rd w w.heap.size 3 A n (stCells l)) :
    Calls Try.prog 4 #[.slice A n c, .int .u8 (o.toNat : Int), .agg #[.int .u32 (tp.1 : Int), .int .u32 (tp.2 : Int)]] w fun e w' => e = .returned (.bool true) ∧ Below w.heap.size w w' := by
  have b0 := belowAlloc (Below.refl w.heap.size w) (.cells #[.int .u32 (tp.1 : Int), .int .u32 (tp.2 : Int)] 34)
  have q5 := Blk.new w 34 #[.int .u32 (tp.1 : Int), .int .u32 (tp.2 : Int)]
  have RW := Lib.hid (rows_any l A n c (w.alloc (.cells #[.int .u32 (tp.1 : Int), .int .u32 (tp.2 : Int)] 34)) hn ((hr.below b0 (Nat.le_refl _)).more b0.size))
  obtain ⟨d, hd⟩ : ∃ d, d = rowsR (l.take 60) := ⟨_, rfl⟩
  rw [← hd] at RW
  have hgd := rows_gd (l.take 60).length (l.take 60) rfl (by rw [List.length_take]; omega)
  rw [← hd] at hgd
  have hdl : d.length ≤ 60 := by rw [hd, rowsR_len, List.length_take]; omega
  have GD := Lib.hid hgd.1
  have HDL := Lib.hid hdl
  clear hn hr hd hgd hdl
  go_enter Try.func4, Try.ntmps4
  go_upto_region 1 with fail
  have hw0s : (w.alloc (.cells #[.int .u32 (tp.1 : Int), .int .u32 (tp.2 : Int)] 34)).heap.size = w.heap.size + 1 := by simp
  generalize w.alloc (.cells #[.int .u32 (tp.1 : Int), .int .u32 (tp.2 : Int)] 34) = w0 at *
  obtain ⟨g5, hg5⟩ : ∃ g, g = w.heap.size := ⟨_, rfl⟩
  rw [← hg5] at q5 ⊢
  have HG5 := Lib.hid hg5
  have Q5 := Lib.hid q5
  have B0 := Lib.hid b0
  clear b0 q5 hg5
  go_wp2_with fail
  refine RW.out.mono ?_
  rintro e w1 ⟨va, X, bm, D, rfl, hX, oA, hok, hby, hho, b1⟩
  clear RW
  have HX := Lib.hid hX
  have OA := Lib.hid (own_low oA B0.out.size)
  have HOK := Lib.hid hok
  have HBY := Lib.hid hby
  have HHO := Lib.hid hho
  have HB1 := Lib.hid (belowGo B0.out b1)
  have HB01 : Hid (w0.heap.size = w.heap.size + 1) := Lib.hid hw0s
  have Q5 := Lib.hid (Q5.out.after b1)
  obtain ⟨Aa, ca, rfl, -⟩ := own_cap oA
  obtain ⟨na, hna⟩ : ∃ n, n = X.length := ⟨_, rfl⟩
  rw [← hna] at OA ⊢
  have HNA := Lib.hid hna
  have HND : Hid (d.length = na) := Lib.hid (by rw [← hX, List.length_map, hna])
  clear hX oA hok hby hho b1 hna B0 hw0s
  have N1 := Lib.hid (newlk_any w1)
  go_wp2_with fail
  refine N1.out.mono ?_
  rintro e w2 ⟨rfl, x1, b1⟩
  have N2 := Lib.hid (newlk_any w2)
  have X1 := Lib.hid x1
  have B1 := Lib.hid b1
  clear N1 x1 b1
  go_wp2_with fail
  refine N2.out.mono ?_
  rintro e w3 ⟨rfl, y1, b2⟩
  have TW := Lib.hid (Two.new X1.out B1.out y1 b2)
  clear N2 X1 B1 y1 b2
  obtain ⟨gx, hgx⟩ : ∃ g, g = w1.heap.size + 1 + 1 := ⟨_, rfl⟩
  obtain ⟨hx, hhx⟩ : ∃ g, g = w1.heap.size := ⟨_, rfl⟩
  obtain ⟨ax, hax⟩ : ∃ g, g = w1.heap.size + 1 := ⟨_, rfl⟩
  obtain ⟨gy, hgy⟩ : ∃ g, g = w2.heap.size + 1 + 1 := ⟨_, rfl⟩
  obtain ⟨hy, hhy⟩ : ∃ g, g = w2.heap.size := ⟨_, rfl⟩
  obtain ⟨ay, hay⟩ : ∃ g, g = w2.heap.size + 1 := ⟨_, rfl⟩
  have TW : Hid (Two w1 w3 gx hx ax (.slice none 0 0) ⟨[], [], [], 0⟩ gy hy ay (.slice none 0 0) ⟨[], [], [], 0⟩) := Lib.hid (by rw [hgx, hhx, hax, hgy, hhy, hay]; exact TW.out)
  rw [← hgx, ← hgy]
  clear hgx hhx hax hgy hhy hay
  obtain ⟨p, hp⟩ : ∃ p : Nat × Nat, p = (1 + tp.1 % 100, 16 + tp.2 % 5000) := ⟨_, rfl⟩
  have ep1 : 1 + (tp.1 : Int) % 100 = (p.1 : Int) := by rw [hp]; show 1 + (tp.1 : Int) % 100 = ((1 + tp.1 % 100 : Nat) : Int); omega
  have ep2 : 16 + (tp.2 : Int) % 5000 = (p.2 : Int) := by rw [hp]; show 16 + (tp.2 : Int) % 5000 = ((16 + tp.2 % 5000 : Nat) : Int); omega
  have hps : standsB p.1 p.2 = true := by
    rw [hp]
    unfold standsB
    exact decide_eq_true (by dsimp only; omega)
  have EP1 := Lib.hid ep1
  have EP2 := Lib.hid ep2
  have HPS := Lib.hid hps
  have hp1 := hto.1
  have hp2 := hto.2
  clear hp ep1 ep2 hps
  have hg5 := Q5.out.lt
  have tw4 := (TW.out.setLow (p := ⟨g5, 0, none⟩) hg5 (.int .u32 (p.1 : Int))).setLow (p := ⟨g5, 1, none⟩) (by rw [set_size]; exact hg5) (.int .u32 (p.2 : Int))
  have qp := (Q5.out.set_ 0 (.int .u32 (p.1 : Int))).set_ 1 (.int .u32 (p.2 : Int))
  have k1 := (Kp.set w1 ⟨g5, 0, none⟩ (.int .u32 (p.1 : Int))).same (Kp.set (w1.setCell ⟨g5, 0, none⟩ (.int .u32 (p.1 : Int))) ⟨g5, 1, none⟩ (.int .u32 (p.2 : Int)))
  have oa := Ow.kp OA.out k1 fun j hj hm => own_blk_ne Q5.out OA.out (by decide) ((List.mem_singleton.1 hm).symm.trans hj.symm)
  have hok := fun x hx => (HOK.out x hx).kp k1 fun hm => (HOK.out x hx).2.ne_blk Q5.out (by decide) (by simpa using hm)
  have hby := HBY.out.kp k1 (fun hm => mp_blk_ne HBY.out.map.1 Q5.out (by simpa using hm)) fun q hq j hj hm => by
    have h1 := Ow.lo (HBY.out.own q hq) j hj
    have h2 : j = g5 := by simpa using hm
    have h3 := HG5.out
    have h4 := HB01.out
    omega
  have hb1 := (HB1.out.setCell (p := ⟨g5, 0, none⟩) (by rw [HG5.out]; exact Nat.le_refl _) (.int .u32 (p.1 : Int))).setCell (p := ⟨g5, 1, none⟩) (by rw [HG5.out]; exact Nat.le_refl _) (.int .u32 (p.2 : Int))
  have Q53 := Lib.hid (Q5.out.after TW.out.low)
  have c0 := Q53.out.cell 0
  have c1 := Q53.out.cell 1
  have f0 := Q53.out.frozen 0
  have f1 := Q53.out.frozen 1
  clear OA HOK HBY HB1 TW Q5 k1 hg5
  generalize (w1.setCell ⟨g5, 0, none⟩ (.int .u32 (p.1 : Int))).setCell ⟨g5, 1, none⟩ (.int .u32 (p.2 : Int)) = wb at *
  have OA := Lib.hid oa
  have HOK := Lib.hid hok
  have HBY := Lib.hid hby
  have HB1 := Lib.hid hb1
  have TW := Lib.hid tw4
  have QP := Lib.hid qp
  clear oa hok hby hb1 tw4 qp
  go_upto_region 6 with fail
  rw [EP1.out, EP2.out]
  clear c0 c1 f0 f1 Q53
  generalize (w3.setCell ⟨g5, 0, none⟩ (.int .u32 (p.1 : Int))).setCell ⟨g5, 1, none⟩ (.int .u32 (p.2 : Int)) = w4 at *
  obtain ⟨kk, hkk⟩ : ∃ k, k = chK na o.toNat := ⟨_, rfl⟩
  have HKK := Lib.hid hkk
  clear hkk
  go_upto_if 50 with fail
  go_cut [11] from 50 to 55 (fun v11 wx => v11 = .int .i64 kk ∧ wx = w4)
  case first =>
    rcases Nat.eq_zero_or_pos na with h0 | h0
    · subst h0
      have hk : kk = -1 := by rw [HKK.out]; rfl
      subst hk
      go_wp2_with fail
      go_meet
      case rel => exact ⟨rfl, rfl⟩
    · have i1 : (0 : Int) < (na : Int) := by omega
      have i2 : ¬ ((na : Int) = 0) := by omega
      have hk : (wrap64 (o.toNat : Int)).tmod (na : Int) = kk := by
        have := o.toNat_lt
        rw [HKK.out, show wrap64 (o.toNat : Int) = (o.toNat : Int) by unfold wrap64; omega]
        unfold chK
        rw [if_neg (by omega)]
        exact (Int.ofNat_tmod _ _).symm
      have HK := Lib.hid hk
      clear hk h0
      go_wp2_with fail
      go_meet
      case rel => exact ⟨by rw [HK.out], rfl⟩
  obtain ⟨rfl, hw⟩ := hcut
  have hw := hw.symm
  subst hw
  go_wp2_with fail
  go_loopw [12] (fun i wr => ∃ (j : Nat) (S S' : LS) (v v' : Value), j ≤ na ∧ i = .int .i64 (j : Int) ∧ Two wb wr gx hx ax v S gy hy ay v' S' ∧ Is S (d.take j) [] ∧ Is S' (d.take j) (wrO kk d p j)) (fun i _ => na - (intOf i).toNat)
  case atStart => exact ⟨0, _, _, _, _, Nat.zero_le _, rfl, TW.out, Is.nil, by rw [wrO_0]; exact Is.nil⟩
  case round =>
    clear TW
    obtain ⟨j, S, S', v, v', hj, rfl, tw, is, is'⟩ := hrel
    have TW := Lib.hid tw
    have IS := Lib.hid is
    have IS' := Lib.hid is'
    clear tw is is'
    have hna60 : na ≤ 60 := by have := HND.out; have := HDL.out; omega
    by_cases hin : j < na
    · have i1 : (j : Int) < (na : Int) := by omega
      have oa := Ow.after OA.out TW.out.low
      obtain ⟨pa, c9, he, -, -⟩ := own_ptr oa (by omega)
      injection he with he he2 he3
      subst he he3
      obtain ⟨x, hx0⟩ : ∃ x, X[j]? = some x := ⟨X[j]'(by rw [← HNA.out]; exact hin), List.getElem?_eq_getElem _⟩
      have hmem : x ∈ X := List.mem_of_getElem? hx0
      have hat : ∀ (W : World), Below wb.heap.size wb W → At W pa (j * 9) [.int .u32 (x.r.at_.1 : Int), .int .u32 (x.r.at_.2 : Int), .int .i64 0, .int .u64 (x.r.q : Int), .int .i64 x.r.k, .slice (some ⟨x.g, 0, none⟩) 1 x.cp, .slice none 0 0, .int .u32 (x.r.pv.1 : Int), .int .u32 (x.r.pv.2 : Int)] := fun (W : World) hW => by rw [← Nat.zero_add (j * 9)]; exact rowAt (l := X) (w := W) (p := pa) (off := 0) (fun k u hu => Ow.cell (Ow.after OA.out hW) rfl (by omega) hu) hx0
      have HAT := Lib.hid hat
      have hdx : d[j]? = some x.r := by rw [← HX.out, List.getElem?_map, hx0]; rfl
      have htk : d.take (j + 1) = d.take j ++ [x.r] := by rw [List.take_add_one, hdx]; rfl
      obtain ⟨hgd, hft⟩ := GD.out.get hdx
      obtain ⟨hc0, hi1⟩ := IS.out.add hft x.r.pv (hgd.pv_may hft)
      rw [if_pos rfl] at hi1
      have HXO := Lib.hid (fun (W : World) (hW : Below wb.heap.size wb W) => (HOK.out x hmem).after hW)
      have HTK := Lib.hid htk
      have HDX := Lib.hid hdx
      have HFT := Lib.hid hft
      have HPVM := Lib.hid (hgd.pv_may hft)
      have HI1 := Lib.hid hi1
      have HC0 := Lib.hid hc0
      have q6 := Blk.new wr 40 #[.int .u32 (x.r.at_.1 : Int), .int .u32 (x.r.at_.2 : Int), .int .i64 0, .int .u64 (x.r.q : Int), .int .i64 x.r.k, .slice (some ⟨x.g, 0, none⟩) 1 x.cp, .slice none 0 0, .int .u32 (x.r.pv.1 : Int), .int .u32 (x.r.pv.2 : Int)]
      have b6 := belowAlloc (Below.refl wr.heap.size wr) (.cells #[.int .u32 (x.r.at_.1 : Int), .int .u32 (x.r.at_.2 : Int), .int .i64 0, .int .u64 (x.r.q : Int), .int .i64 x.r.k, .slice (some ⟨x.g, 0, none⟩) 1 x.cp, .slice none 0 0, .int .u32 (x.r.pv.1 : Int), .int .u32 (x.r.pv.2 : Int)] 40)
      have hfr := TW.out.fresh (Nat.le_refl wr.heap.size)
      clear oa he2 hx0 hmem hat hdx htk hgd hft hc0 hi1
      go_upto_region 13 with (first
        | (refine wpList_value rfl (exec_load_mid rfl rfl (HAT.out _ TW.out.low) Try.underlying40 rfl (by kernel_rfl)) ?_)
        | fail)
      generalize wr.alloc (.cells #[.int .u32 (x.r.at_.1 : Int), .int .u32 (x.r.at_.2 : Int), .int .i64 0, .int .u64 (x.r.q : Int), .int .i64 x.r.k, .slice (some ⟨x.g, 0, none⟩) 1 x.cp, .slice none 0 0, .int .u32 (x.r.pv.1 : Int), .int .u32 (x.r.pv.2 : Int)] 40) = w6 at *
      obtain ⟨g6, hg6⟩ : ∃ g, g = wr.heap.size := ⟨_, rfl⟩
      rw [← hg6] at q6 hfr ⊢
      have HG6 : Hid (wb.heap.size ≤ g6) := Lib.hid (by rw [hg6]; exact TW.out.low.size)
      have TW6 := Lib.hid (TW.out.after b6)
      have Q6 := Lib.hid q6
      have HFR := Lib.hid hfr
      have ad := addlk_any x.r.at_ 0 x.r.q x.r.k [x.r.c] (some ⟨x.g, 0, none⟩) 1 x.cp none 0 0 x.r.pv w6 TW6.out.fst (stands_lok HFT.out.st) (HXO.out _ TW6.out.low).1 (by omega) ((HXO.out _ TW6.out.low).2.rd (by simp)) (by rw [IS.out.wrong]; simp)
      rw [show ([x.r.c] : List UInt8).length = 1 from rfl, HC0.out] at ad
      have AD := Lib.hid ad
      clear b6 q6 hfr hg6 ad TW
      go_wp2_with (first
        | (refine wpList_value rfl (exec_load_blk rfl rfl Q6.out Try.underlying40 rfl (by kernel_rfl)) ?_)
        | fail)
      refine AD.out.mono ?_
      rintro e w7 rt
      obtain ⟨v1, rfl, tw7, hbk, nx7⟩ := TW6.out.addf rt Q6.out.lt HFR.out.1
      have TW7 := Lib.hid tw7
      have NX7 := Lib.hid nx7
      have Q7 : Hid (Blk w7 g6 40 #[.int .u32 (x.r.at_.1 : Int), .int .u32 (x.r.at_.2 : Int), .int .i64 0, .int .u64 (x.r.q : Int), .int .i64 x.r.k, .slice (some ⟨x.g, 0, none⟩) 1 x.cp, .slice none 0 0, .int .u32 (x.r.pv.1 : Int), .int .u32 (x.r.pv.2 : Int)]) := Lib.hid (hbk.trans Q6.out)
      have QP7 := Lib.hid (QP.out.after tw7.low)
      obtain ⟨pj, hpj⟩ : ∃ q : Nat × Nat, q = if kk = (j : Int) then p else x.r.pv := ⟨_, rfl⟩
      have HPJ := Lib.hid hpj
      clear AD rt tw7 nx7 hbk Q6 TW6 hpj
      go_upto_if 72 with fail
      go_cut [] from 72 to 75 (fun wx => Two wb wx gx hx ax v1 (S.add x.r.at_ x.r.q x.r.k [x.r.c] 0 x.r.pv) gy hy ay v' S' ∧ Blk wx g6 40 #[.int .u32 (x.r.at_.1 : Int), .int .u32 (x.r.at_.2 : Int), .int .i64 0, .int .u64 (x.r.q : Int), .int .i64 x.r.k, .slice (some ⟨x.g, 0, none⟩) 1 x.cp, .slice none 0 0, .int .u32 (pj.1 : Int), .int .u32 (pj.2 : Int)])
      case first =>
        by_cases hkj : kk = (j : Int)
        · have hp : pj = p := by rw [HPJ.out, if_pos hkj]
          have i2 : ((j : Int) == kk) = true := by simp [hkj]
          have c7 := Q7.out.cell 7
          have f7 := Q7.out.frozen 7
          have c8 := Q7.out.cell 8
          have f8 := Q7.out.frozen 8
          have Q8 : Hid (Blk ((w7.setCell ⟨g6, 7, none⟩ (.int .u32 (p.1 : Int))).setCell ⟨g6, 8, none⟩ (.int .u32 (p.2 : Int))) g6 40 #[.int .u32 (x.r.at_.1 : Int), .int .u32 (x.r.at_.2 : Int), .int .i64 0, .int .u64 (x.r.q : Int), .int .i64 x.r.k, .slice (some ⟨x.g, 0, none⟩) 1 x.cp, .slice none 0 0, .int .u32 (pj.1 : Int), .int .u32 (pj.2 : Int)]) := Lib.hid (by rw [hp]; exact (Q7.out.set_ 7 (.int .u32 (p.1 : Int))).set_ 8 (.int .u32 (p.2 : Int)))
          have TW8 := Lib.hid ((TW7.out.setHi (p := ⟨g6, 7, none⟩) HG6.out NX7.out HFR.out.2 (.int .u32 (p.1 : Int))).setHi (p := ⟨g6, 8, none⟩) HG6.out NX7.out HFR.out.2 (.int .u32 (p.2 : Int)))
          clear hkj hp
          go_wp2_with (first
            | (refine wpList_value rfl (exec_load_blk rfl rfl QP7.out Try.underlying34 rfl (by kernel_rfl)) ?_)
            | fail)
          go_meet
          case rel => exact ⟨TW8.out, Q8.out⟩
        · have hp : pj = x.r.pv := by rw [HPJ.out, if_neg hkj]
          have i2 : ((j : Int) == kk) = false := by
            rw [beq_eq_false_iff_ne]
            exact fun e => hkj e.symm
          have Q8 : Hid (Blk w7 g6 40 #[.int .u32 (x.r.at_.1 : Int), .int .u32 (x.r.at_.2 : Int), .int .i64 0, .int .u64 (x.r.q : Int), .int .i64 x.r.k, .slice (some ⟨x.g, 0, none⟩) 1 x.cp, .slice none 0 0, .int .u32 (pj.1 : Int), .int .u32 (pj.2 : Int)]) := Lib.hid (by rw [hp]; exact Q7.out)
          clear hkj hp
          go_wp2_with fail
          go_meet
          case rel => exact ⟨TW7.out, Q8.out⟩
      obtain ⟨tw8, q8⟩ := hcut
      have TW8 := Lib.hid tw8
      have Q8 := Lib.hid q8
      clear tw8 q8 TW7 Q7 QP7 NX7
      have hpm : mayL pj.1 pj.2 = true := by
        rw [HPJ.out]
        split
        · unfold mayL; rw [HPS.out]; simp
        · exact HPVM.out
      obtain ⟨hc2, hi2⟩ := IS'.out.add HFT.out pj hpm
      have hwr : (if x.r.pv = pj then wrO kk d p j else wrO kk d p j ++ [x.r.at_]) = wrO kk d p (j + 1) := by
        rw [wrO_step HDX.out, HPJ.out]
        by_cases hkj : kk = (j : Int)
        · rw [if_pos hkj, if_pos hkj]
        · rw [if_neg hkj, if_neg hkj, if_pos rfl]
      rw [hwr] at hi2
      have ad2 := addlk_any x.r.at_ 0 x.r.q x.r.k [x.r.c] (some ⟨x.g, 0, none⟩) 1 x.cp none 0 0 pj wc TW8.out.snd (stands_lok HFT.out.st) (HXO.out _ TW8.out.low).1 (by omega) ((HXO.out _ TW8.out.low).2.rd (by simp)) (by
        rw [IS'.out.wrong]
        unfold wrO
        cases d[kk.toNat]? with
        | none => simp
        | some r => simp only [Option.map_some, Option.getD_some]; split <;> simp)
      rw [show ([x.r.c] : List UInt8).length = 1 from rfl, hc2] at ad2
      have AD2 := Lib.hid ad2
      have HI2 := Lib.hid hi2
      clear hpm hc2 hi2 hwr ad2
      go_wp2_with (first
        | (refine wpList_value rfl (exec_load_blk rfl rfl Q8.out Try.underlying40 rfl (by kernel_rfl)) ?_)
        | fail)
      refine AD2.out.mono ?_
      rintro e w9 rt
      obtain ⟨v2, rfl, tw9, -⟩ := TW8.out.swap.addk rt
      have TW9 := Lib.hid tw9.swap
      clear AD2 rt tw9
      go_wp2_with fail
      go_roundw
      case rel => exact ⟨j + 1, _, _, v1, v2, by omega, by go_num, TW9.out, by rw [HTK.out]; exact HI1.out, by rw [HTK.out]; exact HI2.out⟩
      case measure => simp [intOf]; omega
    · obtain ⟨wq, hwq⟩ : ∃ W, W = wr := ⟨_, rfl⟩
      subst hwq
      obtain rfl : j = na := by omega
      have hta : d.take j = d := List.take_of_length_le (by rw [HND.out]; exact Nat.le_refl _)
      have is1 := IS.out
      have is2 := IS'.out
      rw [hta] at is1 is2
      have ISF := Lib.hid is1
      have ISG := Lib.hid is2
      have BYR := Lib.hid (HBY.out.after TW.out.low)
      obtain ⟨w0', hrange, rg0, b0, hs0⟩ := BYR.out.map.range Try.underlying24
      have HRANGE := Lib.hid hrange
      obtain ⟨rr, hrr⟩ : ∃ r, r = wq.heap.size := ⟨_, rfl⟩
      rw [← hrr] at HRANGE rg0
      have RG0 := Lib.hid rg0
      have B0 := Lib.hid b0
      have HRR := Lib.hid hrr
      clear hta hj hin is1 is2 hrange rg0 b0 hs0 hrr
      go_wp2_with (first
        | (refine wpList_value rfl (exec_range rfl HRANGE.out) ?_)
        | fail)
      go_frame
      go_loopw [] (fun wx => ∃ T, Rg wx bm rr u8V (fun p : Value × List (Nat × Nat) => p.1) T ∧ (∀ p ∈ T, p ∈ D) ∧ Below wq.heap.size wq wx) (fun wx => wx.rangeLeft bm rr)
      case atStart => exact ⟨D, RG0.out, fun _ h => h, B0.out⟩
      case round =>
        clear RG0 B0
        obtain ⟨T, rg, hT, hbx⟩ := hrel
        rcases rg.next (P := Try.prog) 0 with ⟨hnil, hrun⟩ | ⟨q, T', w1', hq, hperm, hrun, rg1, k1, hs1, hent⟩
        · have HN1 := Lib.hid hrun
          have HBX := Lib.hid hbx
          clear rg hT hnil hrun hbx
          have TWF := Lib.hid (TW.out.after HBX.out)
          have QPP : Hid (Blk wb g5 34 #[.int .u32 (p.1 : Int), .int .u32 (p.2 : Int)]) := Lib.hid QP.out
          have HHL : Hid (S.heads.length = D.length) := Lib.hid (heads_len ISF.out TW.out.fst.2.2.2.2.2.1.nodup HBY.out.map.nodup HHO.out HBY.out.ne)
          have HDLEN : Hid (D.length ≤ 100000) := Lib.hid (by
            have h1 := HHL.out
            have h3 := ISF.out.hlen
            have h4 := HDL.out
            omega)
          rcases Nat.eq_zero_or_pos j with h0 | h0
          · subst h0
            have hk : kk = -1 := by rw [HKK.out]; rfl
            subst hk
            have HWO : Hid (wrO (-1) d p 0 = []) := Lib.hid (wrO_0 _ _ _)
            have hwl : (wrO (-1) d p 0) = [] := HWO.out
            have wy := wronglk_any wr TWF.out.snd (by rw [ISG.out.wrong, hwl]; simp)
            rw [ISG.out.wrong, hwl] at wy
            have WY := Lib.hid wy
            clear wy hwl
            go_wp2_with (first
              | (refine wpList_value rfl (exec_next rfl HN1.out) ?_)
              | fail)
            refine WY.out.mono ?_
            rintro e wa ⟨va, rfl, oa, ba⟩
            obtain ⟨A24, c24, rfl, -⟩ := own_cap oa
            have OW24 : Hid (Ow _ _ _ _ _ _ _) := Lib.hid oa
            have HBA := Lib.hid (belowGo HBX.out ba)
            have wx := wronglk_any wa (TW.out.fst.after HBA.out) (by rw [ISF.out.wrong]; simp)
            rw [ISF.out.wrong] at wx
            have WX := Lib.hid wx
            clear WY oa ba wx
            go_wp2_with fail
            refine WX.out.mono ?_
            rintro e wc' ⟨vc, rfl, oc, bc⟩
            obtain ⟨Ac, cc, rfl, -⟩ := own_cap oc
            have HBC := Lib.hid (belowGo HBA.out bc)
            have OW24 : Hid (Ow _ _ _ _ _ _ _) := Lib.hid (Ow.after OW24.out bc)
            have len := lenlk_any wc' (TW.out.fst.after HBC.out)
            have hsl : S.ahead.length = d.length := ISF.out.len
            rw [hsl, HND.out] at len
            have LEN := Lib.hid len
            clear len hsl
            clear WX oc bc
            go_wp2_with fail
            refine LEN.out.mono ?_
            rintro e wd ⟨rfl, rfl⟩
            have KY := Lib.hid (keyslk_any SB wc' (TW.out.fst.after HBC.out) (by rw [HHL.out]; have := HDLEN.out; omega))
            clear LEN
            go_wp2_with fail
            refine KY.out.mono ?_
            rintro e we ⟨ve, XK, rfl, hpk, -, ok, -, be⟩
            have hxl : XK.length = D.length := by
              have := hpk.length_eq
              rw [List.length_map, List.length_map, HHL.out] at this
              exact this
            rw [hxl] at ok
            obtain ⟨Ae, ce, rfl, -⟩ := own_cap ok
            have HBE := Lib.hid (belowGo HBC.out be)
            have OW24 : Hid (Ow _ _ _ _ _ _ _) := Lib.hid (Ow.after OW24.out be)
            have hln := fun ty => (HBY.out.map.below (TW.out.low.trans (HBE.out.mono TW.out.low.size)) (by have := HBY.out.map.lt; exact this)).len Try.underlying24 ty
            clear KY hpk ok be hxl
            go_upto_region 42 with fail
            clear hln
            have HLOW := Lib.hid (HB1.out.trans ((TW.out.low.trans (HBE.out.mono TW.out.low.size)).mono HB1.out.size))
            have QPE := Lib.hid (QPP.out.after (TW.out.low.trans (HBE.out.mono TW.out.low.size)))
            have hcur : Below we.heap.size we we.drew := ⟨rfl, rfl, rfl, Nat.le_refl _, fun _ _ => rfl⟩
            refine wp_region_plan (fun W => Below we.heap.size we W) [.calms [0, 1, 2, 3, 4, 5, 6, 7], .read 8, .act 9, .act 10, .calms [11]] (by kernel_rfl) (by rfl) (by kernel_rfl) (by kernel_rfl) hcur ?_
            generalize we.drew = wf at *
            have HCU := Lib.hid hcur
            clear hcur
            refine plan_calms (by simp [calmRow, need, chk]; rfl) ?_
            go_wp2_with fail
            refine plan_skipS (some 172) (by rfl) (by rfl) (by rfl) ?_
            refine plan_skipA (some 173) (by rfl) (by rfl) (by rfl) HCU.out ?_
            refine plan_skipA (some 174) (by rfl) (by rfl) (by rfl) HCU.out ?_
            refine plan_calms (by simp [calmRow, need]; rfl) ?_
            go_wp2_with fail
            refine plan_end ?_
            go_wp2_with fail
            refine (knowsL_any _).mono ?_
            rintro e wg ⟨rfl, bg⟩
            have HBG := Lib.hid bg
            clear bg
            go_wp2_with fail
            exact bodyPost_ret (results_tmp rfl _ _ _) rfl ⟨rfl, belowGo (belowGo HLOW.out HCU.out) HBG.out⟩
          · obtain ⟨ki, hki, hkj⟩ : ∃ k : Nat, kk = (k : Int) ∧ k < j := ⟨o.toNat % j, by rw [HKK.out]; unfold chK; rw [if_neg (by omega)], Nat.mod_lt _ h0⟩
            subst hki
            obtain ⟨x, hx0⟩ : ∃ x, X[ki]? = some x := ⟨X[ki]'(by rw [← HNA.out]; exact hkj), List.getElem?_eq_getElem _⟩
            have hdx : d[ki]? = some x.r := by rw [← HX.out, List.getElem?_map, hx0]; rfl
            obtain ⟨pa, c9, he, -, -⟩ := own_ptr OA.out h0
            injection he with he he2 he3
            subst he he3
            have HAT : Hid (∀ (W : World), Below wb.heap.size wb W → At W pa (ki * 9) [.int .u32 (x.r.at_.1 : Int), .int .u32 (x.r.at_.2 : Int), .int .i64 0, .int .u64 (x.r.q : Int), .int .i64 x.r.k, .slice (some ⟨x.g, 0, none⟩) 1 x.cp, .slice none 0 0, .int .u32 (x.r.pv.1 : Int), .int .u32 (x.r.pv.2 : Int)]) := Lib.hid (fun (W : World) hW => by rw [← Nat.zero_add (ki * 9)]; exact rowAt (l := X) (w := W) (p := pa) (off := 0) (fun k u hu => Ow.cell (Ow.after OA.out hW) rfl (by omega) hu) hx0)
            have HATP : Hid (∀ (W : World), Below wb.heap.size wb W → At W pa (ki * 9 + 3 + 4) [.int .u32 (x.r.pv.1 : Int), .int .u32 (x.r.pv.2 : Int)]) := Lib.hid (fun W hW k u hu => by
              rw [show ki * 9 + 3 + 4 + k = ki * 9 + (7 + k) by omega]
              refine HAT.out W hW (7 + k) u ?_
              match k, hu with
              | 0, hu => exact hu
              | 1, hu => exact hu
              | k + 2, hu => simp at hu)
            have hwo : wrO (ki : Int) d p j = if x.r.pv ≠ p then [x.r.at_] else [] := by
              unfold wrO
              rw [Int.toNat_natCast, hdx]
              have h1 : (0 : Int) ≤ (ki : Int) := by omega
              have h2 : (ki : Int) < (j : Int) := by omega
              simp only [Option.map_some, Option.getD_some, h1, h2, true_and]
            have i1 : ¬ ((ki : Int) < 0) := by omega
            have i2 : (ki : Int) < (j : Int) := by omega
            have i3 : (0 : Int) ≤ (ki : Int) := by omega
            clear hx0 hdx he2 h0
            by_cases hpv : x.r.pv = p
            · have HWO : Hid (wrO (ki : Int) d p j = []) := Lib.hid (by rw [hwo, if_neg (fun h => h hpv)])
              have HPV := Lib.hid hpv
              clear hwo hpv
              have hwl : (wrO (ki : Int) d p j) = [] := HWO.out
              have wy := wronglk_any wr TWF.out.snd (by rw [ISG.out.wrong, hwl]; simp)
              rw [ISG.out.wrong, hwl] at wy
              have WY := Lib.hid wy
              clear wy hwl
              go_wp2_with (first
                | (refine wpList_value rfl (exec_next rfl HN1.out) ?_)
                | fail)
              refine WY.out.mono ?_
              rintro e wa ⟨va, rfl, oa, ba⟩
              obtain ⟨A24, c24, rfl, -⟩ := own_cap oa
              have OW24 : Hid (Ow _ _ _ _ _ _ _) := Lib.hid oa
              have HBA := Lib.hid (belowGo HBX.out ba)
              have wx := wronglk_any wa (TW.out.fst.after HBA.out) (by rw [ISF.out.wrong]; simp)
              rw [ISF.out.wrong] at wx
              have WX := Lib.hid wx
              clear WY oa ba wx
              go_wp2_with fail
              refine WX.out.mono ?_
              rintro e wc' ⟨vc, rfl, oc, bc⟩
              obtain ⟨Ac, cc, rfl, -⟩ := own_cap oc
              have HBC := Lib.hid (belowGo HBA.out bc)
              have OW24 : Hid (Ow _ _ _ _ _ _ _) := Lib.hid (Ow.after OW24.out bc)
              have len := lenlk_any wc' (TW.out.fst.after HBC.out)
              have hsl : S.ahead.length = d.length := ISF.out.len
              rw [hsl, HND.out] at len
              have LEN := Lib.hid len
              clear len hsl
              clear WX oc bc
              go_wp2_with fail
              refine LEN.out.mono ?_
              rintro e wd ⟨rfl, rfl⟩
              have KY := Lib.hid (keyslk_any SB wc' (TW.out.fst.after HBC.out) (by rw [HHL.out]; have := HDLEN.out; omega))
              clear LEN
              go_wp2_with fail
              refine KY.out.mono ?_
              rintro e we ⟨ve, XK, rfl, hpk, -, ok, -, be⟩
              have hxl : XK.length = D.length := by
                have := hpk.length_eq
                rw [List.length_map, List.length_map, HHL.out] at this
                exact this
              rw [hxl] at ok
              obtain ⟨Ae, ce, rfl, -⟩ := own_cap ok
              have HBE := Lib.hid (belowGo HBC.out be)
              have OW24 : Hid (Ow _ _ _ _ _ _ _) := Lib.hid (Ow.after OW24.out be)
              have hln := fun ty => (HBY.out.map.below (TW.out.low.trans (HBE.out.mono TW.out.low.size)) (by have := HBY.out.map.lt; exact this)).len Try.underlying24 ty
              clear KY hpk ok be hxl
              go_upto_region 42 with fail
              clear hln
              have HLOW := Lib.hid (HB1.out.trans ((TW.out.low.trans (HBE.out.mono TW.out.low.size)).mono HB1.out.size))
              have QPE := Lib.hid (QPP.out.after (TW.out.low.trans (HBE.out.mono TW.out.low.size)))
              have hcur : Below we.heap.size we we.drew := ⟨rfl, rfl, rfl, Nat.le_refl _, fun _ _ => rfl⟩
              refine wp_region_plan (fun W => Below we.heap.size we W) [.calms [0, 1, 2, 3, 4, 5, 6, 7], .read 8, .act 9, .act 10, .calms [11]] (by kernel_rfl) (by rfl) (by kernel_rfl) (by kernel_rfl) hcur ?_
              generalize we.drew = wf at *
              have HCU := Lib.hid hcur
              clear hcur
              refine plan_calms (by simp [calmRow, need, chk]; rfl) ?_
              go_wp2_with fail
              have EQL := Lib.hid (fun W => equal_loc x.r.pv.1 x.r.pv.2 p.1 p.2 W)
              rw [show decide (x.r.pv.1 = p.1 ∧ x.r.pv.2 = p.2) = true from decide_eq_true ⟨by rw [HPV.out], by rw [HPV.out]⟩] at EQL
              refine plan_read (by rfl) (.agg #[.int .u32 (x.r.pv.1 : Int), .int .u32 (x.r.pv.2 : Int)]) (by rfl) (fun W hW => exec_load_mid rfl rfl (HATP.out W (TW.out.low.trans ((belowGo HBE.out hW).mono TW.out.low.size))) Try.underlying34 rfl (by kernel_rfl)) ?_
              refine plan_act (by rfl) ?_
              refine wpList_value rfl (exec_load_blk rfl rfl (QPE.out.after HCU.out) Try.underlying34 rfl (by kernel_rfl)) ?_
              go_wp2_with fail
              refine ⟨HCU.out, ?_⟩
              refine plan_last (by rfl) (by kernel_rfl) ?_
              refine wpList_value (v := .bool true) rfl (exec_bin rfl (run_eql_agg (by kernel_rfl) (EQL.out _))) ?_
              go_wp2_with fail
              refine plan_calms (by simp [calmRow, need]; rfl) ?_
              go_wp2_with fail
              refine plan_end ?_
              go_wp2_with fail
              refine (knowsL_any _).mono ?_
              rintro e wg ⟨rfl, bg⟩
              have HBG := Lib.hid bg
              clear bg
              go_wp2_with fail
              exact bodyPost_ret (results_tmp rfl _ _ _) rfl ⟨rfl, belowGo (belowGo HLOW.out HCU.out) HBG.out⟩
            · have HWO : Hid (wrO (ki : Int) d p j = [x.r.at_]) := Lib.hid (by rw [hwo, if_pos hpv])
              have HPV := Lib.hid hpv
              clear hwo hpv
              have hwl : (wrO (ki : Int) d p j) = [x.r.at_] := HWO.out
              have wy := wronglk_any wr TWF.out.snd (by rw [ISG.out.wrong, hwl]; simp)
              rw [ISG.out.wrong, hwl] at wy
              have WY := Lib.hid wy
              clear wy hwl
              go_wp2_with (first
                | (refine wpList_value rfl (exec_next rfl HN1.out) ?_)
                | fail)
              refine WY.out.mono ?_
              rintro e wa ⟨va, rfl, oa, ba⟩
              obtain ⟨A24, c24, rfl, -⟩ := own_cap oa
              have OW24 : Hid (Ow _ _ _ _ _ _ _) := Lib.hid oa
              have HBA := Lib.hid (belowGo HBX.out ba)
              have wx := wronglk_any wa (TW.out.fst.after HBA.out) (by rw [ISF.out.wrong]; simp)
              rw [ISF.out.wrong] at wx
              have WX := Lib.hid wx
              clear WY oa ba wx
              go_wp2_with fail
              refine WX.out.mono ?_
              rintro e wc' ⟨vc, rfl, oc, bc⟩
              obtain ⟨Ac, cc, rfl, -⟩ := own_cap oc
              have HBC := Lib.hid (belowGo HBA.out bc)
              have OW24 : Hid (Ow _ _ _ _ _ _ _) := Lib.hid (Ow.after OW24.out bc)
              have len := lenlk_any wc' (TW.out.fst.after HBC.out)
              have hsl : S.ahead.length = d.length := ISF.out.len
              rw [hsl, HND.out] at len
              have LEN := Lib.hid len
              clear len hsl
              clear WX oc bc
              go_wp2_with fail
              refine LEN.out.mono ?_
              rintro e wd ⟨rfl, rfl⟩
              have KY := Lib.hid (keyslk_any SB wc' (TW.out.fst.after HBC.out) (by rw [HHL.out]; have := HDLEN.out; omega))
              clear LEN
              go_wp2_with fail
              refine KY.out.mono ?_
              rintro e we ⟨ve, XK, rfl, hpk, -, ok, -, be⟩
              have hxl : XK.length = D.length := by
                have := hpk.length_eq
                rw [List.length_map, List.length_map, HHL.out] at this
                exact this
              rw [hxl] at ok
              obtain ⟨Ae, ce, rfl, -⟩ := own_cap ok
              have HBE := Lib.hid (belowGo HBC.out be)
              have OW24 : Hid (Ow _ _ _ _ _ _ _) := Lib.hid (Ow.after OW24.out be)
              have hln := fun ty => (HBY.out.map.below (TW.out.low.trans (HBE.out.mono TW.out.low.size)) (by have := HBY.out.map.lt; exact this)).len Try.underlying24 ty
              clear KY hpk ok be hxl
              go_upto_region 42 with fail
              clear hln
              have HLOW := Lib.hid (HB1.out.trans ((TW.out.low.trans (HBE.out.mono TW.out.low.size)).mono HB1.out.size))
              have QPE := Lib.hid (QPP.out.after (TW.out.low.trans (HBE.out.mono TW.out.low.size)))
              have hcur : Below we.heap.size we we.drew := ⟨rfl, rfl, rfl, Nat.le_refl _, fun _ _ => rfl⟩
              refine wp_region_plan (fun W => Below we.heap.size we W) [.calms [0, 1, 2, 3, 4, 5, 6, 7], .read 8, .act 9, .act 10, .calms [11]] (by kernel_rfl) (by rfl) (by kernel_rfl) (by kernel_rfl) hcur ?_
              generalize we.drew = wf at *
              have HCU := Lib.hid hcur
              clear hcur
              refine plan_calms (by simp [calmRow, need, chk]; rfl) ?_
              go_wp2_with fail
              have EQL := Lib.hid (fun W => equal_loc x.r.pv.1 x.r.pv.2 p.1 p.2 W)
              rw [show decide (x.r.pv.1 = p.1 ∧ x.r.pv.2 = p.2) = false from decide_eq_false (fun h => HPV.out (Prod.ext h.1 h.2))] at EQL
              refine plan_read (by rfl) (.agg #[.int .u32 (x.r.pv.1 : Int), .int .u32 (x.r.pv.2 : Int)]) (by rfl) (fun W hW => exec_load_mid rfl rfl (HATP.out W (TW.out.low.trans ((belowGo HBE.out hW).mono TW.out.low.size))) Try.underlying34 rfl (by kernel_rfl)) ?_
              refine plan_act (by rfl) ?_
              refine wpList_value rfl (exec_load_blk rfl rfl (QPE.out.after HCU.out) Try.underlying34 rfl (by kernel_rfl)) ?_
              go_wp2_with fail
              refine ⟨HCU.out, ?_⟩
              refine plan_last (by rfl) (by kernel_rfl) ?_
              refine wpList_value (v := .bool false) rfl (exec_bin rfl (run_eql_agg (by kernel_rfl) (EQL.out _))) ?_
              go_wp2_with fail
              refine plan_calms (by simp [calmRow, need]; rfl) ?_
              go_wp2_with fail
              refine plan_end ?_
              have HBF := Lib.hid (belowGo HBE.out HCU.out)
              have HLOWF := Lib.hid (belowGo HLOW.out HCU.out)
              have ow24 := Ow.after OW24.out HCU.out
              obtain ⟨g24, c9, he, -, -⟩ := own_ptr ow24 (by simp)
              injection he with he he2 he3
              subst he he3
              have HA24 : Hid (∀ (W : World), Below wf.heap.size wf W → At W g24 0 [.int .u32 (x.r.at_.1 : Int), .int .u32 (x.r.at_.2 : Int)]) := Lib.hid (fun W hW k u hu => Ow.cell (Ow.after ow24 hW) rfl (by simp) (by unfold lcs; exact hu))
              have HATA : Hid (∀ (W : World), Below wb.heap.size wb W → At W pa (ki * 9) [.int .u32 (x.r.at_.1 : Int), .int .u32 (x.r.at_.2 : Int)]) := Lib.hid (fun W hW k u hu => by
                refine HAT.out W hW k u ?_
                match k, hu with
                | 0, hu => exact hu
                | 1, hu => exact hu
                | k + 2, hu => simp at hu)
              have EQA := Lib.hid (fun W => equal_loc x.r.at_.1 x.r.at_.2 x.r.at_.1 x.r.at_.2 W)
              rw [show decide (x.r.at_.1 = x.r.at_.1 ∧ x.r.at_.2 = x.r.at_.2) = true by simp] at EQA
              clear HCU HLOW ow24 he2 QPE EQL
              go_upto_region 44 with fail
              have hcur : Below wf.heap.size wf wf.drew := ⟨rfl, rfl, rfl, Nat.le_refl _, fun _ _ => rfl⟩
              refine wp_region_plan (fun W => Below wf.heap.size wf W) [.calms [0, 1, 2, 3, 4, 5, 7, 8, 9, 10], .read 6, .act 11, .act 12, .calms [13, 14], .act 15, .calms [16, 17]] (by kernel_rfl) (by rfl) (by kernel_rfl) (by kernel_rfl) hcur ?_
              generalize wf.drew = wg at *
              have HCU := Lib.hid hcur
              clear hcur
              refine plan_calms (by simp [calmRow, need, chk]; rfl) ?_
              go_wp2_with fail
              refine plan_read (by rfl) (.agg #[.int .u32 (x.r.at_.1 : Int), .int .u32 (x.r.at_.2 : Int)]) (by rfl) (fun W hW => exec_load_mid rfl rfl (HA24.out W hW) Try.underlying34 rfl (by kernel_rfl)) ?_
              refine plan_act (by rfl) ?_
              refine wpList_value rfl (exec_load_mid rfl rfl (HATA.out _ (TW.out.low.trans ((belowGo HBF.out HCU.out).mono TW.out.low.size))) Try.underlying34 rfl (by kernel_rfl)) ?_
              go_wp2_with fail
              refine ⟨HCU.out, ?_⟩
              refine plan_last (by rfl) (by kernel_rfl) ?_
              refine wpList_value (v := .bool true) rfl (exec_bin rfl (run_eql_agg (by kernel_rfl) (EQA.out _))) ?_
              go_wp2_with fail
              refine plan_calms (by simp [calmRow, need]; rfl) ?_
              go_wp2_with fail
              refine plan_last (by rfl) (by kernel_rfl) ?_
              go_wp2_with fail
              refine (knowsL_any _).mono ?_
              rintro e wh ⟨rfl, bh⟩
              have HBG := Lib.hid bh
              clear bh
              go_wp2_with fail
              refine plan_calms (by simp [calmRow, need]; rfl) ?_
              go_wp2_with fail
              refine plan_end ?_
              go_wp2_with fail
              exact bodyPost_ret (results_tmp rfl _ _ _) rfl ⟨rfl, belowGo (belowGo HLOWF.out HCU.out) HBG.out⟩
        · obtain ⟨ch, vv, ls⟩ := q
          have hqD := hT _ hq
          have hw1 := hbx.trans (k1.below (fun i hi => by have := HRR.out; simp at hi; omega) hbx.size)
          have hT' : ∀ p ∈ T', p ∈ D := fun p hp => hT p (hperm.mem_iff.2 (List.mem_cons_of_mem _ hp))
          have hlen : T.length = T'.length + 1 := by rw [hperm.length_eq]; rfl
          have hcq : curD D ch = (vv, ls) := by unfold curD; rw [mget_mem HBY.out.map.nodup hqD]; rfl
          have hls : ls = (rcs d ch).map LR.at_ := by have := HHO.out ch; rw [hcq] at this; exact this
          obtain ⟨R, hRd⟩ : ∃ R, R = rcs d ch := ⟨_, rfl⟩
          rw [← hRd] at hls
          have hR : R ≠ [] := fun e => HBY.out.ne _ hqD (by rw [e] at hls; exact hls)
          obtain ⟨rl, hrl⟩ : ∃ r, R.getLast? = some r := ⟨_, List.getLast?_eq_some_getLast hR⟩
          have ov : Ow wq w0.heap.size 34 2 vv ls.length (lcs ls) := BYR.out.own _ hqD
          obtain ⟨Av, cv, rfl, -⟩ := own_cap ov
          obtain ⟨m, hm⟩ : ∃ m, m = ls.length := ⟨_, rfl⟩
          dsimp only at ov hrun hent hm
          rw [← hm] at ov hrun hent
          unfold u8V at hrun hent
          have hmR : R.length = m := by rw [hm, hls, List.length_map]
          obtain ⟨mm, rfl⟩ : ∃ k, m = k + 1 := ⟨m - 1, by have : 0 < R.length := List.length_pos_iff.2 hR; omega⟩
          have hrm : R[mm]? = some rl := by rw [List.getLast?_eq_getElem?, hmR, Nat.add_sub_cancel] at hrl; exact hrl
          have HRM := Lib.hid hrm
          obtain ⟨gv, c9, he, -, -⟩ := own_ptr ov (by have : 0 < R.length := List.length_pos_iff.2 hR; omega)
          injection he with he he2 he3
          subst he he3
          have HLC : Hid (∀ (W : World) (i : Nat) (r : LR), Below wq.heap.size wq W → R[i]? = some r → At W gv (i * 2) [.int .u32 (r.at_.1 : Int), .int .u32 (r.at_.2 : Int)]) := Lib.hid (fun W i r hW hr k u hu => by
            have hk2 : k < 2 := (List.getElem?_eq_some_iff.1 hu).1
            have h9 := flatMap_get (fun l : Nat × Nat => [Value.int .u32 (l.1 : Int), .int .u32 (l.2 : Int)]) 2 (fun _ => rfl) ls i k hk2
            have h10 : (lcs ls)[i * 2 + k]? = some u := by
              unfold lcs
              rw [h9, hls, List.getElem?_map, hr]
              exact hu
            have := Ow.cell (Ow.after ov hW) rfl (by have := (List.getElem?_eq_some_iff.1 hr).1; omega) h10
            rwa [Nat.zero_add] at this)
          have HM0 : Hid (mm + 1 ≤ 60) := Lib.hid (by
            have h2 : R.length ≤ d.length := by rw [hRd]; unfold rcs; exact List.length_filter_le _ _
            have h3 := HDL.out
            omega)
          have HRG := Lib.hid rg
          have RG1 := Lib.hid rg1
          have HW1 := Lib.hid hw1
          have HT' := Lib.hid hT'
          have HLEN := Lib.hid hlen
          have HRD := Lib.hid hRd
          have HRL := Lib.hid hrl
          have HMR := Lib.hid hmR
          have HN1 := Lib.hid hrun
          have HE1 := Lib.hid (hent w1' rfl rfl)
          have HST : Hid (∀ r ∈ R, r ∈ d ∧ standsB r.at_.1 r.at_.2 = true) := Lib.hid (by rw [hRd]; exact fun r h => ⟨(rcs_mem h).1, GD.out.stands r (rcs_mem h).1⟩)
          clear rg rg1 hT hq hperm hrun hent hbx k1 hs1 hqD hw1 hT' hlen hcq hls hRd hR hrl ov hm hmR he2 hrm
          go_wp2_with (first
            | (refine wpList_value rfl (exec_next rfl HN1.out) ?_)
            | (refine wpList_value rfl (exec_ent rfl HE1.out) ?_)
            | fail)
          go_loopw [90] (fun i wx => ∃ jz : Nat, jz ≤ 2 ∧ i = .int .i64 (jz : Int) ∧ Rg wx bm rr u8V (fun p : Value × List (Nat × Nat) => p.1) T' ∧ Below wq.heap.size wq wx) (fun i _ => 2 - (intOf i).toNat)
          case atStart => exact ⟨0, by omega, rfl, RG1.out, HW1.out⟩
          case round =>
            clear RG1 HW1 HN1 HE1
            obtain ⟨jz, hjz, rfl, rg, hb⟩ := hrel
            have RG := Lib.hid rg
            have HBX := Lib.hid hb
            by_cases hj2 : jz < 2
            · obtain ⟨gz, hz, az, vz, Sz, wz, hix, lkz, isz⟩ : ∃ gz hz az vz Sz wz, (∀ W, (Instr.index 51 (.agg #[.pointer (some ⟨gx, 0, none⟩), .pointer (some ⟨gy, 0, none⟩)]) (.int .i64 (jz : Int))).run Try.prog W = .ok (.pointer (some ⟨gz, 0, none⟩)) W) ∧ (∀ W, Below wq.heap.size wq W → Lk W wb.heap.size gz hz az vz Sz) ∧ Is Sz d wz := by
                match jz, hj2 with
                | 0, _ => exact ⟨gx, hx, ax, v, S, [], fun W => by kernel_rfl, fun W hW => TW.out.fst.after hW, ISF.out⟩
                | 1, _ => exact ⟨gy, hy, ay, v', S', wrO kk d p j, fun W => by kernel_rfl, fun W hW => TW.out.snd.after hW, ISG.out⟩
              have LKZ0 := Lib.hid lkz
              have ISZ := Lib.hid isz
              have HIX := Lib.hid hix
              have i1 : (jz : Int) < 2 := by omega
              have b2 := belowAlloc (Below.refl wr.heap.size wr) (.cells #[.int .u8 (ch.toNat : Int)] 5)
              have q2 := Blk.new wr 5 #[.int .u8 (ch.toNat : Int)]
              have h1 := headlk_any [ch] (some ⟨wr.heap.size, 0, none⟩) 1 1 (wr.alloc (.cells #[.int .u8 (ch.toNat : Int)] 5)) (LKZ0.out _ (belowGo HBX.out b2)) (by omega) (by omega) (bcell_rd q2 rfl rfl (by unfold maxLen; omega))
              have hsh : Sz.head [ch] = some (hdR rl) := by
                have : Sz.head [ch] = mget Sz.heads [ch] := rfl
                rw [this, ISZ.out.heads, rcs_last, ← HRD.out, HRL.out]
                rfl
              rw [hsh] at h1
              have H1 := Lib.hid h1
              have B2 := Lib.hid b2
              have hix := HIX.out
              clear b2 q2 h1 hsh rg hb lkz isz
              go_wp2_with fail
              refine H1.out.mono ?_
              rintro e w3' ⟨he, b3⟩
              have he : e = .returned (.tuple #[.agg #[.int .u32 (rl.at_.1 : Int), .int .u32 (rl.at_.2 : Int), .int .u64 (rl.q : Int), .int .i64 rl.k], .bool true]) := he
              subst he
              have HC3 := Lib.hid (belowGo B2.out b3)
              clear H1 b3 B2 hix
              have b4 := belowAlloc (Below.refl w3'.heap.size w3') (.cells #[.int .u32 (rl.at_.1 : Int), .int .u32 (rl.at_.2 : Int), .int .u64 (rl.q : Int), .int .i64 rl.k] 42)
              have q4 := Blk.new w3' 42 #[.int .u32 (rl.at_.1 : Int), .int .u32 (rl.at_.2 : Int), .int .u64 (rl.q : Int), .int .i64 rl.k]
              go_upto_region 26 with fail
              generalize w3'.alloc (.cells #[.int .u32 (rl.at_.1 : Int), .int .u32 (rl.at_.2 : Int), .int .u64 (rl.q : Int), .int .i64 rl.k] 42) = w4' at *
              obtain ⟨g4, hg4⟩ : ∃ g, g = w3'.heap.size := ⟨_, rfl⟩
              rw [← hg4] at q4 ⊢
              have HC4 := Lib.hid (belowGo HBX.out (belowGo HC3.out b4))
              have RG4 := Lib.hid (RG.out.after (belowGo HC3.out b4))
              have hat0 : ∀ W, Below w4'.heap.size w4' W → At W g4 0 [.int .u32 (rl.at_.1 : Int), .int .u32 (rl.at_.2 : Int)] := fun W hW k v hv => by
                rw [(q4.after hW).cell]
                match k, hv with
                | 0, hv => exact hv
                | 1, hv => exact hv
                | k + 2, hv => simp at hv
              have HAT0 := Lib.hid hat0
              have hwm : wrap64 (mm : Int) = (mm : Int) := by have := HM0.out; unfold wrap64; omega
              have hmi : (mm : Int) < (mm : Int) + 1 := by omega
              have EQL := Lib.hid (fun W => equal_loc rl.at_.1 rl.at_.2 rl.at_.1 rl.at_.2 W)
              rw [show decide (rl.at_.1 = rl.at_.1 ∧ rl.at_.2 = rl.at_.2) = true by simp] at EQL
              clear hg4 b4 q4 hat0 HC3 RG
              have hcur : Below w4'.heap.size w4' w4'.drew := ⟨rfl, rfl, rfl, Nat.le_refl _, fun _ _ => rfl⟩
              refine wp_region_plan (fun W => Below w4'.heap.size w4' W) [.calms [0, 1, 2, 3, 5, 6, 7, 8, 9], .read 4, .act 10, .act 11, .calms [12]] (by kernel_rfl) (by rfl) (by kernel_rfl) (by kernel_rfl) hcur ?_
              generalize w4'.drew = w5 at *
              have HCU := Lib.hid hcur
              clear hcur
              refine plan_calms (by simp [calmRow, need, chk]; rfl) ?_
              go_wp2_with fail
              refine plan_read (by rfl) (.agg #[.int .u32 (rl.at_.1 : Int), .int .u32 (rl.at_.2 : Int)]) (by rfl) (fun W hW => exec_load_mid rfl rfl (HAT0.out W hW) Try.underlying34 rfl (by kernel_rfl)) ?_
              refine plan_act (by rfl) ?_
              refine wpList_value rfl (exec_load_mid rfl rfl (HLC.out _ mm rl (belowGo HC4.out HCU.out) HRM.out) Try.underlying34 rfl (by kernel_rfl)) ?_
              go_wp2_with fail
              refine ⟨HCU.out, ?_⟩
              refine plan_last (by rfl) (by kernel_rfl) ?_
              refine wpList_value (v := .bool false) rfl (exec_bin rfl (run_neq_agg (by kernel_rfl) (EQL.out _))) ?_
              go_wp2_with fail
              refine plan_calms (by simp [calmRow, need]; rfl) ?_
              go_wp2_with fail
              refine plan_end ?_
              have HC5 := Lib.hid (belowGo HC4.out HCU.out)
              have RG5 := Lib.hid (RG4.out.after HCU.out)
              have HAT5 := Lib.hid (HAT0.out _ HCU.out)
              have b6 := belowAlloc (Below.refl w5.heap.size w5) (.cells #[.int .u32 (rl.at_.1 : Int), .int .u32 (rl.at_.2 : Int)] 34)
              have q6 := Blk.new w5 34 #[.int .u32 (rl.at_.1 : Int), .int .u32 (rl.at_.2 : Int)]
              clear RG4 HC4 HCU
              go_upto_region 29 with (first
                | (refine wpList_value rfl (exec_load_mid rfl rfl HAT5.out Try.underlying34 rfl (by kernel_rfl)) ?_)
                | fail)
              generalize w5.alloc (.cells #[.int .u32 (rl.at_.1 : Int), .int .u32 (rl.at_.2 : Int)] 34) = w6 at *
              obtain ⟨g6, hg6⟩ : ∃ g, g = w5.heap.size := ⟨_, rfl⟩
              rw [← hg6] at q6 ⊢
              have HC6 := Lib.hid (belowGo HC5.out b6)
              have RG6 := Lib.hid (RG5.out.after b6)
              have Q6 := Lib.hid q6
              have HG6 : Hid (wq.heap.size ≤ g6) := Lib.hid (by rw [hg6]; exact HC5.out.size)
              clear hg6 b6 q6 RG5 HC5 HAT0 HAT5 EQL
              go_wp2_with fail
              go_loopw [21] (fun i wx => ∃ (jj : Nat) (iv : Int), jj ≤ mm + 1 ∧ iv = (jj : Int) - 1 ∧ i = .int .i64 iv ∧ Blk wx g6 34 #[.int .u32 ((atK R jj).1 : Int), .int .u32 ((atK R jj).2 : Int)] ∧ Rg wx bm rr u8V (fun p : Value × List (Nat × Nat) => p.1) T' ∧ Below wq.heap.size wq wx) (fun i _ => (intOf i + 1).toNat)
              case atStart => exact ⟨mm + 1, (mm : Int), Nat.le_refl _, by omega, by rw [hwm], by rw [atK_succ HRM.out]; exact Q6.out, RG6.out, HC6.out⟩
              case round =>
                clear Q6 RG6 HC6 hwm hmi
                obtain ⟨jj, iv, hjj, hiv, rfl, q, rg, hb⟩ := hrel
                rcases Nat.eq_zero_or_pos jj with h0 | h0
                · subst h0
                  have hiv2 : iv = -1 := by omega
                  clear hiv
                  subst hiv2
                  rw [atK_0] at q
                  have Q0 : Hid (Blk wr g6 34 #[.int .u32 0, .int .u32 0]) := Lib.hid q
                  have RGE := Lib.hid rg
                  have HBE := Lib.hid hb
                  have EQL := Lib.hid (fun W => equal_loc 0 0 0 0 W)
                  clear q rg hb hjj
                  go_wp2_with (first
                    | (refine wpList_value rfl (exec_load_blk rfl rfl Q0.out Try.underlying34 rfl (by kernel_rfl)) ?_)
                    | (refine wpList_value (v := .bool false) rfl (exec_bin rfl (run_neq_agg (by kernel_rfl) (EQL.out _))) ?_)
                    | fail)
                  go_roundw
                  case rel => exact ⟨jz + 1, by omega, by go_num, RGE.out, HBE.out⟩
                  case measure => simp [intOf]; omega
                · obtain ⟨j', rfl⟩ : ∃ k, jj = k + 1 := ⟨jj - 1, by omega⟩
                  have hiv2 : iv = (j' : Int) := by omega
                  clear hiv
                  subst hiv2
                  obtain ⟨r, hr⟩ : ∃ r, R[j']? = some r := ⟨R[j']'(by have := HMR.out; omega), List.getElem?_eq_getElem _⟩
                  rw [atK_succ hr] at q
                  obtain ⟨hrd, hst⟩ := HST.out r (List.mem_of_getElem? hr)
                  have hlok := stands_lok hst
                  have hah : mget Sz.ahead r.at_ = some r.pv := ISZ.out.ahead_get GD.out hrd
                  have hpv : r.pv = atK R j' := by rw [HRD.out] at hr ⊢; exact GD.out.chain ch hr
                  have aa := aheadlk_any r.at_ hlok wr (LKZ0.out _ hb)
                  rw [hah] at aa
                  have AA := Lib.hid aa
                  have Q0 := Lib.hid q
                  have RG0 := Lib.hid rg
                  have HB0 := Lib.hid hb
                  have HR' := Lib.hid hr
                  have HPV := Lib.hid hpv
                  have hj60 : j' < mm + 1 := by omega
                  have i2 : (j' : Int) < (mm : Int) + 1 := by omega
                  have i3 : (0 : Int) ≤ (j' : Int) := by omega
                  have EQR := Lib.hid (fun W => equal_loc r.at_.1 r.at_.2 r.at_.1 r.at_.2 W)
                  rw [show decide (r.at_.1 = r.at_.1 ∧ r.at_.2 = r.at_.2) = true by simp] at EQR
                  clear q rg hb hr hrd hst hlok hah hpv aa h0
                  go_wp2_with (first
                    | (refine wpList_value rfl (exec_load_blk rfl rfl Q0.out Try.underlying34 rfl (by kernel_rfl)) ?_)
                    | fail)
                  refine AA.out.mono ?_
                  rintro e w7 ⟨he, b7⟩
                  have he : e = .returned (.tuple #[.agg #[.int .u32 (r.pv.1 : Int), .int .u32 (r.pv.2 : Int)], .bool true]) := he
                  subst he
                  have b8 := belowAlloc b7 (.cells #[.int .u32 (r.pv.1 : Int), .int .u32 (r.pv.2 : Int)] 34)
                  have q8 := Blk.new w7 34 #[.int .u32 (r.pv.1 : Int), .int .u32 (r.pv.2 : Int)]
                  go_upto_region 33 with fail
                  generalize w7.alloc (.cells #[.int .u32 (r.pv.1 : Int), .int .u32 (r.pv.2 : Int)] 34) = w8 at *
                  obtain ⟨g8, hg8⟩ : ∃ g, g = w7.heap.size := ⟨_, rfl⟩
                  rw [← hg8] at q8 ⊢
                  have Q8 := Lib.hid (Q0.out.after b8)
                  have RG8 := Lib.hid (RG0.out.after b8)
                  have HB8 := Lib.hid (belowGo HB0.out b8)
                  have QN := Lib.hid q8
                  clear AA b7 b8 q8 hg8
                  have hcur : Below w8.heap.size w8 w8.drew := ⟨rfl, rfl, rfl, Nat.le_refl _, fun _ _ => rfl⟩
                  refine wp_region_plan (fun W => Below w8.heap.size w8 W) [.calms [1, 2, 3], .read 0, .act 4, .act 5, .calms [6, 7, 8, 9]] (by kernel_rfl) (by rfl) (by kernel_rfl) (by kernel_rfl) hcur ?_
                  generalize w8.drew = w9 at *
                  have HCU := Lib.hid hcur
                  clear hcur
                  refine plan_calms (by simp [calmRow, need]; rfl) ?_
                  go_wp2_with fail
                  refine plan_read (by rfl) (.agg #[.int .u32 (r.at_.1 : Int), .int .u32 (r.at_.2 : Int)]) (by rfl) (fun W hW => exec_load_blk rfl rfl (Q8.out.after hW) Try.underlying34 rfl (by kernel_rfl)) ?_
                  refine plan_act (by rfl) ?_
                  refine wpList_value rfl (exec_load_mid rfl rfl (HLC.out _ j' r (belowGo HB8.out HCU.out) HR'.out) Try.underlying34 rfl (by kernel_rfl)) ?_
                  go_wp2_with fail
                  refine ⟨HCU.out, ?_⟩
                  refine plan_last (by rfl) (by kernel_rfl) ?_
                  refine wpList_value (v := .bool false) rfl (exec_bin rfl (run_neq_agg (by kernel_rfl) (EQR.out _))) ?_
                  go_wp2_with fail
                  refine plan_calms (by simp [calmRow, need]; rfl) ?_
                  go_wp2_with fail
                  refine plan_end ?_
                  have Q9 := Lib.hid (Q8.out.after HCU.out)
                  have QN9 := Lib.hid (QN.out.after HCU.out)
                  have QA := Lib.hid ((Q8.out.after HCU.out).row #[.int .u32 (r.pv.1 : Int), .int .u32 (r.pv.2 : Int)])
                  have RGA := Lib.hid ((RG8.out.after HCU.out).of_blocks (row_other (fun e => (RG8.out.after HCU.out).owns_ne (Q8.out.after HCU.out) e) #[.int .u32 (r.pv.1 : Int), .int .u32 (r.pv.2 : Int)]) (row_other (fun e => (RG8.out.after HCU.out).ne_blk (Q8.out.after HCU.out) e) #[.int .u32 (r.pv.1 : Int), .int .u32 (r.pv.2 : Int)]))
                  have HBA := Lib.hid (row_below (belowGo HB8.out HCU.out) HG6.out #[.int .u32 (r.pv.1 : Int), .int .u32 (r.pv.2 : Int)])
                  clear Q8 QN RG8 HB8 HCU
                  go_wp2_with (first
                    | (refine wpList_value rfl (exec_load_blk rfl rfl QN9.out Try.underlying34 rfl (by kernel_rfl)) ?_)
                    | (refine wpList_storeB rfl 34 (.tmp 20) (.tmp 138) rfl rfl rfl Q9.out (by kernel_rfl) (by rfl) (by simp [Value.oneCell']) ?_)
                    | fail)
                  go_roundw
                  case rel => exact ⟨j', (j' : Int) - 1, by omega, by omega, by rw [show wrap64 ((j' : Int) - 1) = (j' : Int) - 1 by have := HM0.out; unfold wrap64; omega], by rw [← HPV.out]; exact QA.out, RGA.out, HBA.out⟩
                  case measure =>
                    rw [show wrap64 ((j' : Int) - 1) = (j' : Int) - 1 by have := HM0.out; unfold wrap64; omega]
                    show ((j' : Int) - 1 + 1).toNat < ((j' : Int) + 1).toNat
                    omega
            · obtain rfl : jz = 2 := by omega
              go_wp2_with fail
              go_roundw
              case rel => exact ⟨T', RG.out, HT'.out, HBX.out⟩
              case measure => rw [RG.out.left_eq, HRG.out.left_eq, HLEN.out]; omega
end Go.Proofs.Ytnkkieiofpplgaa
