/- LinkHeads: the walk. For every row of steps, every key that is left out. -/
import Derived.Test.YtnkkieiofpplgaaLkGd
import Derived.Test.YtnkkieiofpplgaaLkKnows
import Derived.Test.YtnkkieiofpplgaaHdEq
namespace Go.Proofs.Ytnkkieiofpplgaa
open Go.RowKit
attribute [local go_sem] Oper.semAt_some

def LX.val (x : LX) : Value := .agg x.cells.toArray
def mapsTo (M : List (UInt8 × LX)) (d : List LR) : Prop := ∀ c, (mget M c).map LX.r = lastOf d c
theorem mapsTo.put {M : List (UInt8 × LX)} {d : List LR} (h : mapsTo M d) (x : LX) : mapsTo (mput x.r.c x M) (d ++ [x.r]) := by
  intro c
  rw [mget_put, lastOf_snoc]
  by_cases hc : c = x.r.c
  · rw [if_pos hc, if_pos hc.symm]
    rfl
  · rw [if_neg hc, if_neg (fun e => hc e.symm)]
    exact h c
section
variable {w0 W W' : World} {g bh ba : Nat} {v : Value} {S S1 : LS} {g' bh' ba' : Nat} {v' : Value} {S' : LS}
theorem Two.addb {cd : Nat} {e : Ending} (h : Two w0 W g bh ba v S g' bh' ba' v' S') (r : RetAdd W w0.heap.size g bh ba v S1 cd e W') {b : Nat} (hb : b < W.heap.size) (hn : some b ∉ lkF g bh ba v) :
    ∃ v1, e = .returned (.int .i64 (cd : Int)) ∧ Two w0 W' g bh ba v1 S1 g' bh' ba' v' S' ∧ W'.heap[b]? = W.heap[b]? ∧ some b ∉ lkF g bh ba v1 := by
  obtain ⟨v1, he, hl, hk, hx⟩ := r
  refine ⟨v1, he, ⟨hl, h.snd.kp hk h.dj.symm, lkF_new h.dj h.snd.lt hx, h.low.trans (hk.below h.fst.lo h.low.size)⟩, hk.block b hb hn, fun hm => ?_⟩
  exact lkF_new (s := [some b]) (fun i hi hm => hn (by rw [← List.mem_singleton.1 hm]; exact hi)) (fun i hi => by simp at hi; omega) hx b hm (by simp)
theorem Two.setB (h : Two w0 W g bh ba v S g' bh' ba' v' S') {b : Nat} (h1 : some b ∉ lkF g bh ba v) (h2 : some b ∉ lkF g' bh' ba' v') (hb : w0.heap.size ≤ b) (o : Obj) : Two w0 (Go.ChangeMaps.setBlock W b o) g bh ba v S g' bh' ba' v' S' :=
  ⟨h.fst.kp (Kp.setBlock W b o) fun j hj hm => h1 (by rw [← List.mem_singleton.1 hm]; exact hj), h.snd.kp (Kp.setBlock W b o) fun j hj hm => h2 (by rw [← List.mem_singleton.1 hm]; exact hj), h.dj, setBlock_below h.low hb o⟩
end
theorem lxAt {l : List LX} {w : World} {p off j : Nat} {x : LX} (hc : ∀ k u, (lxCells l)[k]? = some u → w.cell? ⟨p, off + k, none⟩ = some u) (hx : l[j]? = some x) : At w p (off + j * 9) x.cells := fun k u hu => by
  have hk : k < 9 := (List.getElem?_eq_some_iff.1 hu).1
  have := flatMap_get LX.cells 9 (fun _ => rfl) l j k hk
  rw [Nat.add_assoc]
  refine hc _ _ ?_
  unfold lxCells
  rw [this, hx]
  exact hu

set_option maxRecDepth 100000 in
set_option maxHeartbeats 8000000 in
theorem heads_walk (l : List Stp) (A : Option Addr) (n c : Nat) (o : UInt8) (w : World) (hn : l.length = n) (hr : Rd w w.heap.size 3 A n (stCells l)) :
    Calls Try.prog 3 #[.slice A n c, .int .u8 (o.toNat : Int)] w fun e w' => e = .returned (.bool true) ∧ Below w.heap.size w w' := by
  have RW := Lib.hid (rows_any l A n c w hn hr)
  obtain ⟨d, hd⟩ : ∃ d, d = rowsR (l.take 60) := ⟨_, rfl⟩
  rw [← hd] at RW
  have hgd := rows_gd (l.take 60).length (l.take 60) rfl (by rw [List.length_take]; omega)
  have hky := rows_key (l := l.take 60)
  rw [← hd] at hgd hky
  have hdl : d.length ≤ 60 := by rw [hd, rowsR_len, List.length_take]; omega
  have GD := Lib.hid hgd.1
  have HKY := Lib.hid hky
  have HDL := Lib.hid hdl
  clear hn hr hd hgd hky hdl
  go_enter Try.func3, Try.ntmps3
  go_wp2_with fail
  refine RW.out.mono ?_
  rintro e w1 ⟨va, X, bm, D, rfl, hX, oA, hok, hby, hho, b1⟩
  clear RW
  have HX := Lib.hid hX
  have OA := Lib.hid oA
  have HOK := Lib.hid hok
  have HBY := Lib.hid hby
  have HHO := Lib.hid hho
  have HB1 := Lib.hid b1
  obtain ⟨Aa, ca, rfl, -⟩ := own_cap oA
  obtain ⟨na, hna⟩ : ∃ n, n = X.length := ⟨_, rfl⟩
  rw [← hna] at OA ⊢
  have HNA := Lib.hid hna
  have HND : Hid (d.length = na) := Lib.hid (by rw [← hX, List.length_map, hna])
  clear hX oA hok hby hho b1 hna
  have N1 := Lib.hid (newlk_any w1)
  go_wp2_with fail
  refine N1.out.mono ?_
  rintro e w2 ⟨rfl, x1, b1⟩
  have N2 := Lib.hid (newlk_any w2)
  have X1 := Lib.hid x1
  have B1 := Lib.hid b1
  clear N1 x1 b1
  go_wp2_with fail
  refine N2.out.mono ?_
  rintro e w3 ⟨rfl, y1, b2⟩
  have TW := Lib.hid (Two.new X1.out B1.out y1 b2)
  clear N2 X1 B1 y1 b2
  obtain ⟨gx, hgx⟩ : ∃ g, g = w1.heap.size + 1 + 1 := ⟨_, rfl⟩
  obtain ⟨hx, hhx⟩ : ∃ g, g = w1.heap.size := ⟨_, rfl⟩
  obtain ⟨ax, hax⟩ : ∃ g, g = w1.heap.size + 1 := ⟨_, rfl⟩
  obtain ⟨gy, hgy⟩ : ∃ g, g = w2.heap.size + 1 + 1 := ⟨_, rfl⟩
  obtain ⟨hy, hhy⟩ : ∃ g, g = w2.heap.size := ⟨_, rfl⟩
  obtain ⟨ay, hay⟩ : ∃ g, g = w2.heap.size + 1 := ⟨_, rfl⟩
  have TW : Hid (Two w1 w3 gx hx ax (.slice none 0 0) ⟨[], [], [], 0⟩ gy hy ay (.slice none 0 0) ⟨[], [], [], 0⟩) := Lib.hid (by rw [hgx, hhx, hax, hgy, hhy, hay]; exact TW.out)
  rw [← hgx, ← hgy]
  clear hgx hhx hax hgy hhy hay
  obtain ⟨gn, hgn⟩ : ∃ c : UInt8, c = UInt8.ofNat (97 + o.toNat % 8) := ⟨_, rfl⟩
  have hol := o.toNat_lt
  have e9 : 97 + (o.toNat : Int) % 8 = (gn.toNat : Int) := by
    rw [hgn, UInt8.toNat_ofNat']
    omega
  have hmk : ∀ W, (Instr.makeMap 29 none).run Try.prog W = .ok (.map (some W.heap.size)) (W.alloc (.map #[] 0)) := fun W => run_makeMap _ W
  have E9 := Lib.hid e9
  clear hgn hol e9
  go_upto_region 5 with fail
  rw [E9.out]
  have m1 := (Mt.new (α := UInt8) (β := LX) w3 Try.prog 5 : Mt _ _ _ _ (fun _ => True) u8V LX.val [])
  have bnew := belowAlloc (Below.refl w3.heap.size w3) (.map #[] 0)
  have tw4 := TW.out.after bnew
  have nx : some w3.heap.size ∉ lkF gx hx ax (.slice none 0 0) := fun hm => by have := TW.out.fst.lt _ hm; omega
  have ny : some w3.heap.size ∉ lkF gy hy ay (.slice none 0 0) := fun hm => by have := TW.out.snd.lt _ hm; omega
  generalize w3.alloc (.map #[] 0) = w4 at *
  obtain ⟨bl, hbl⟩ : ∃ b, b = w3.heap.size := ⟨_, rfl⟩
  rw [← hbl] at m1 nx ny ⊢
  have HBL : Hid (w1.heap.size ≤ bl) := Lib.hid (by rw [hbl]; exact TW.out.low.size)
  have M1 := Lib.hid m1
  have TW4 := Lib.hid tw4
  have NX := Lib.hid nx
  have NY := Lib.hid ny
  clear hmk TW hbl m1 tw4 nx ny bnew
  go_wp2_with fail
  go_loopw [11] (fun i wr => ∃ (j : Nat) (S S' : LS) (v v' : Value) (M : List (UInt8 × LX)), j ≤ na ∧ i = .int .i64 (j : Int) ∧ Two w1 wr gx hx ax v S gy hy ay v' S' ∧ Is S (d.take j) [] ∧ Is S' (outR (d.take j) gn) [] ∧ Mt Try.prog 5 wr bl (fun _ => True) u8V LX.val M ∧ some bl ∉ lkF gx hx ax v ∧ some bl ∉ lkF gy hy ay v' ∧ mapsTo M (d.take j)) (fun i _ => na - (intOf i).toNat)
  case atStart => exact ⟨0, _, _, _, _, [], Nat.zero_le _, rfl, TW4.out, Is.nil, Is.nil, M1.out, NX.out, NY.out, fun _ => rfl⟩
  case round =>
    clear TW4 M1 NX NY
    obtain ⟨j, S, S', v, v', M, hj, rfl, tw, is, is', mt, nx, ny, mm⟩ := hrel
    have TW := Lib.hid tw
    have IS := Lib.hid is
    have IS' := Lib.hid is'
    have MT := Lib.hid mt
    have NX := Lib.hid nx
    have NY := Lib.hid ny
    have MM := Lib.hid mm
    clear tw is is' mt nx ny mm
    have hna60 : na ≤ 60 := by have := HND.out; have := HDL.out; omega
    by_cases hin : j < na
    · have i1 : (j : Int) < (na : Int) := by omega
      have oa := Ow.after OA.out TW.out.low
      obtain ⟨pa, c9, he, -, -⟩ := own_ptr oa (by omega)
      injection he with he he2 he3
      subst he he3
      obtain ⟨x, hx0⟩ : ∃ x, X[j]? = some x := ⟨X[j]'(by rw [← HNA.out]; exact hin), List.getElem?_eq_getElem _⟩
      have hmem : x ∈ X := List.mem_of_getElem? hx0
      have hat : ∀ (W : World), Below w1.heap.size w1 W → At W pa (j * 9) x.cells := fun (W : World) (hW : Below w1.heap.size w1 W) => by rw [← Nat.zero_add (j * 9)]; exact lxAt (l := X) (w := W) (p := pa) (off := 0) (fun k u hu => Ow.cell (Ow.after OA.out hW) rfl (by omega) hu) hx0
      have HAT := Lib.hid hat
      have hdx : d[j]? = some x.r := by rw [← HX.out, List.getElem?_map, hx0]; rfl
      have htk : d.take (j + 1) = d.take j ++ [x.r] := by rw [List.take_add_one, hdx]; rfl
      obtain ⟨hgd, hft⟩ := GD.out.get hdx
      obtain ⟨hc0, hi1⟩ := IS.out.add hft x.r.pv (hgd.pv_may hft)
      rw [if_pos rfl] at hi1
      have hxo := fun (W : World) (hW : Below w1.heap.size w1 W) => (HOK.out x hmem).after hW
      have HXO := Lib.hid hxo
      have ad := addlk_any x.r.at_ 0 x.r.q x.r.k [x.r.c] (some ⟨x.g, 0, none⟩) 1 x.cp none 0 0 x.r.pv wr TW.out.fst (stands_lok hft.st) (HXO.out _ TW.out.low).1 (by omega) ((HXO.out _ TW.out.low).2.rd (by simp)) (by rw [IS.out.wrong]; simp)
      rw [show ([x.r.c] : List UInt8).length = 1 from rfl, hc0] at ad
      have AD := Lib.hid ad
      have HTK := Lib.hid htk
      have HFT := Lib.hid hft
      have HGD := Lib.hid hgd
      have HI1 := Lib.hid hi1
      clear oa he2 hx0 hmem hat hdx htk hgd hft hc0 hi1 hxo ad
      go_upto_region 10 with (first
        | (refine wpList_value rfl (exec_load_mid rfl rfl (HAT.out _ TW.out.low) Try.underlying40 rfl (by kernel_rfl)) ?_)
        | fail)
      refine AD.out.mono ?_
      rintro e w5 rt
      obtain ⟨v1, rfl, tw5, hbk, nx5⟩ := TW.out.addb rt MT.out.lt NX.out
      have TW5 := Lib.hid tw5
      have NX5 := Lib.hid nx5
      have MT5 := Lib.hid (MT.out.of_block hbk)
      have c5 : w5.cell? ⟨pa, j * 9 + 5, none⟩ = some (.slice (some ⟨x.g, 0, none⟩) 1 x.cp) := HAT.out _ tw5.low 5 _ rfl
      have ck : w5.cell? ⟨x.g, 0, none⟩ = some (.int .u8 (x.r.c.toNat : Int)) := by
        have := ((HXO.out _ tw5.low).2.rd (by simp)).cell rfl (by simp) (show (bcells [x.r.c])[0]? = some (.int .u8 (x.r.c.toNat : Int)) from rfl)
        simpa using this
      clear AD rt tw5 nx5 hbk TW MT NX
      have hxc := (HXO.out _ TW5.out.low).1
      go_upto_region 11 with (first
        | (refine wpList_value rfl (exec_load_mid rfl rfl (HAT.out _ TW.out.low) Try.underlying40 rfl (by kernel_rfl)) ?_)
        | fail)
      obtain ⟨om, hst, mt6⟩ := MT5.out.store u8V_inj u8_keyed Try.underlying29 (a := x.r.c) trivial (u8_key x.r.c).choose_spec x
      have tw6 := TW5.out.setB NX5.out NY.out HBL.out om
      have HST := Lib.hid hst
      have MT6 := Lib.hid mt6
      have TW6 := Lib.hid tw6
      have MM6 := Lib.hid (MM.out.put x)
      clear hst mt6 tw6 c5 ck MT5 MM
      go_upto_region 12 with (first
        | (refine wpList_value rfl (exec_load_mid rfl rfl (HAT.out _ TW5.out.low) Try.underlying40 rfl (by kernel_rfl)) ?_)
        | (refine wpList_skip rfl (exec_update rfl HST.out) ?_)
        | fail)
      clear HST TW5
      generalize Go.ChangeMaps.setBlock w5 bl om = w6 at *
      by_cases hg : x.r.c = gn
      · have i2 : (x.r.c.toNat : Int) = (gn.toNat : Int) := by rw [hg]
        have HG := Lib.hid hg
        clear hg
        go_wp2_with fail
        go_roundw
        case rel => exact ⟨j + 1, _, _, v1, v', _, by omega, by go_num, TW6.out, by rw [HTK.out]; exact HI1.out, by rw [HTK.out, outR_snoc, if_pos HG.out]; exact IS'.out, MT6.out, NX5.out, NY.out, by rw [HTK.out]; exact MM6.out⟩
        case measure => simp [intOf]; omega
      · have i2 : ¬ ((x.r.c.toNat : Int) = (gn.toNat : Int)) := fun e => hg (UInt8.toNat_inj.1 (by exact_mod_cast e))
        have i3 : ((x.r.c.toNat : Int) != (gn.toNat : Int)) = true := by simpa using i2
        obtain ⟨hc0, hi1⟩ := IS'.out.add (HFT.out.out hg) x.r.pv (HGD.out.pv_may HFT.out)
        rw [if_pos rfl] at hi1
        have ad := addlk_any x.r.at_ 0 x.r.q x.r.k [x.r.c] (some ⟨x.g, 0, none⟩) 1 x.cp none 0 0 x.r.pv w6 TW6.out.snd (stands_lok HFT.out.st) (HXO.out _ TW6.out.low).1 (by omega) ((HXO.out _ TW6.out.low).2.rd (by simp)) (by rw [IS'.out.wrong]; simp)
        rw [show ([x.r.c] : List UInt8).length = 1 from rfl, hc0] at ad
        have AD := Lib.hid ad
        have HI2 := Lib.hid hi1
        have HG := Lib.hid hg
        clear hg ad hc0 hi1
        go_wp2_with (first
          | (refine wpList_value rfl (exec_load_mid rfl rfl (HAT.out _ TW6.out.low) Try.underlying40 rfl (by kernel_rfl)) ?_)
          | fail)
        refine AD.out.mono ?_
        rintro e w7 rt
        obtain ⟨v2, rfl, tw7, hbk, ny7⟩ := TW6.out.swap.addb rt MT6.out.lt NY.out
        have TW7 := Lib.hid tw7.swap
        have NY7 := Lib.hid ny7
        have MT7 := Lib.hid (MT6.out.of_block hbk)
        clear AD rt tw7 ny7 hbk TW6 MT6 NY
        go_wp2_with fail
        go_roundw
        case rel => exact ⟨j + 1, _, _, v1, v2, _, by omega, by go_num, TW7.out, by rw [HTK.out]; exact HI1.out, by rw [HTK.out, outR_snoc, if_neg HG.out]; exact HI2.out, MT7.out, NX5.out, NY7.out, by rw [HTK.out]; exact MM6.out⟩
        case measure => simp [intOf]; omega
    · obtain rfl : j = na := by omega
      have hta : d.take j = d := List.take_of_length_le (by rw [HND.out]; exact Nat.le_refl _)
      have IS := Lib.hid (show Is S d [] from hta ▸ IS.out)
      have IS' := Lib.hid (show Is S' (outR d gn) [] from hta ▸ IS'.out)
      have MM := Lib.hid (show mapsTo M d from hta ▸ MM.out)
      clear hta hj hin
      go_wp2_with fail
      go_loopw [13] (fun i wx => ∃ k : Nat, 97 ≤ k ∧ k ≤ 105 ∧ i = .int .u8 (k : Int) ∧ Below wr.heap.size wr wx) (fun i _ => 105 - (intOf i).toNat)
      case atStart => exact ⟨97, by omega, by omega, rfl, Below.refl _ _⟩
      case round =>
        obtain ⟨k, hk97, hk105, rfl, hbx⟩ := hrel
        rename_i wx _
        have HBX := Lib.hid hbx
        clear hbx
        by_cases hk : k ≤ 104
        · obtain ⟨kc, hkc⟩ : ∃ c : UInt8, c = UInt8.ofNat k := ⟨_, rfl⟩
          have hkn : (k : Int) = (kc.toNat : Int) := by rw [hkc, UInt8.toNat_ofNat']; omega
          have HKN := Lib.hid hkn
          rw [hkn]
          have i1 : (kc.toNat : Int) ≤ 104 := by omega
          have i1 : (kc.toNat : Int) ≤ 104 := by omega
          have i1 : (kc.toNat : Int) ≤ 104 := by omega
          have i1 : (kc.toNat : Int) ≤ 104 := by omega
          have i1 : (kc.toNat : Int) ≤ 104 := by omega
          clear hkc hkn
          have twx := TW.out.after HBX.out
          have b0 := belowAlloc (Below.refl wr.heap.size wr) (.cells #[.int .u8 (kc.toNat : Int)] 5)
          have q0 := Blk.new wr 5 #[.int .u8 (kc.toNat : Int)]
          have h1 := headlk_any [kc] (some ⟨wr.heap.size, 0, none⟩) 1 1 (wr.alloc (.cells #[.int .u8 (kc.toNat : Int)] 5)) (twx.fst.after b0) (by omega) (by omega) (bcell_rd q0 rfl rfl (by unfold maxLen; omega))
          have hh1 : S.head [kc] = (lastOf d kc).map hdR := by rw [← IS.out.heads]; rfl
          have hh2 : S'.head [kc] = if kc = gn then none else (lastOf d kc).map hdR := by
            have : S'.head [kc] = mget S'.heads [kc] := rfl
            rw [this, IS'.out.heads, lastOf_out]
            by_cases e : kc = gn
            · rw [if_pos e, if_pos e]; rfl
            · rw [if_neg e, if_neg e]
          rw [hh1] at h1
          have hlk := fun W (hW : Below wr.heap.size wr W) => (MT.out.below (belowGo HBX.out hW) MT.out.lt).look u8V_inj u8_keyed Try.underlying29 ((zero_of_info (P := Try.prog) (t := 40) (n := 9) (v := .agg #[.int .u32 0, .int .u32 0, .int .i64 0, .int .u64 0, .int .i64 0, .slice none 0 0, .slice none 0 0, .int .u32 0, .int .u32 0]) (by kernel_rfl)).1 W) (a := kc) trivial (u8_key kc).choose_spec true
          have HLK := Lib.hid hlk
          have H1 := Lib.hid h1
          have TWX := Lib.hid twx
          have B0 := Lib.hid b0
          have HH2 := Lib.hid hh2
          have HM := Lib.hid (MM.out kc)
          clear twx b0 q0 h1 hh1 hh2 hlk
          cases hlo : lastOf d kc with
          | none =>
            rw [hlo] at H1 HH2 HM
            have HH2 : Hid (S'.head [kc] = none) := Lib.hid (by rw [HH2.out]; by_cases e : kc = gn <;> simp [e])
            have HMG : Hid (mget M kc = none) := Lib.hid (by have := HM.out; cases h : mget M kc with | none => rfl | some y => rw [h] at this; cases this)
            clear hlo
            go_wp2_with fail
            refine H1.out.mono ?_
            rintro e w6 ⟨he, b6⟩
            have he : e = .returned (.tuple #[.agg #[.int .u32 0, .int .u32 0, .int .u64 0, .int .i64 0], .bool false]) := he
            subst he
            have HC6 := Lib.hid (belowGo B0.out b6)
            clear H1 b6
            have b7 := belowAlloc (Below.refl w6.heap.size w6) (.cells #[.int .u32 0, .int .u32 0, .int .u64 0, .int .i64 0] 42)
            have q7 := Blk.new w6 42 #[.int .u32 0, .int .u32 0, .int .u64 0, .int .i64 0]
            go_upto_region 18 with fail
            generalize w6.alloc (.cells #[.int .u32 0, .int .u32 0, .int .u64 0, .int .i64 0] 42) = w7 at *
            obtain ⟨g7, hg7⟩ : ∃ g, g = w6.heap.size := ⟨_, rfl⟩
            rw [← hg7] at q7 ⊢
            have HC7 := Lib.hid (belowGo HC6.out b7)
            have Q7 := Lib.hid q7
            clear hg7 b7 q7 HC6
            have b8 := belowAlloc (Below.refl w7.heap.size w7) (.cells #[.int .u8 (kc.toNat : Int)] 5)
            have q8 := Blk.new w7 5 #[.int .u8 (kc.toNat : Int)]
            have h2 := headlk_any [kc] (some ⟨w7.heap.size, 0, none⟩) 1 1 (w7.alloc (.cells #[.int .u8 (kc.toNat : Int)] 5)) ((TWX.out.snd.after HC7.out).after b8) (by omega) (by omega) (bcell_rd q8 rfl rfl (by unfold maxLen; omega))
            rw [HH2.out] at h2
            have H2 := Lib.hid h2
            have HC8 := Lib.hid (belowGo HC7.out b8)
            have Q7 := Lib.hid (Q7.out.after b8)
            clear b8 q8 h2
            go_wp2_with fail
            refine H2.out.mono ?_
            rintro e w9 ⟨he, b9⟩
            have he : e = .returned (.tuple #[.agg #[.int .u32 0, .int .u32 0, .int .u64 0, .int .i64 0], .bool false]) := he
            subst he
            have HC9 := Lib.hid (belowGo HC8.out b9)
            have Q7 := Lib.hid (Q7.out.after b9)
            clear H2 b9
            have b10 := belowAlloc (Below.refl w9.heap.size w9) (.cells #[.int .u32 0, .int .u32 0, .int .u64 0, .int .i64 0] 42)
            have q10 := Blk.new w9 42 #[.int .u32 0, .int .u32 0, .int .u64 0, .int .i64 0]
            go_upto_region 19 with fail
            generalize w9.alloc (.cells #[.int .u32 0, .int .u32 0, .int .u64 0, .int .i64 0] 42) = w10 at *
            obtain ⟨g10, hg10⟩ : ∃ g, g = w9.heap.size := ⟨_, rfl⟩
            rw [← hg10] at q10 ⊢
            have HCA := Lib.hid (belowGo HC9.out b10)
            have Q10 := Lib.hid q10
            have Q7 := Lib.hid (Q7.out.after b10)
            clear hg10 b10 q10 HC9 HC8 HC7
            have b11 := belowAlloc (Below.refl w10.heap.size w10) (.cells #[.int .u32 0, .int .u32 0, .int .i64 0, .int .u64 0, .int .i64 0, .slice none 0 0, .slice none 0 0, .int .u32 0, .int .u32 0] 40)
            have q11 := Blk.new w10 40 #[.int .u32 0, .int .u32 0, .int .i64 0, .int .u64 0, .int .i64 0, .slice none 0 0, .slice none 0 0, .int .u32 0, .int .u32 0]
            have hlk := HLK.out w10 HCA.out
            have HLK1 : Hid ((Instr.lookup 29 (.map (some bl)) (.int .u8 (kc.toNat : Int)) true).run Try.prog w10 = .ok (.tuple #[.agg #[.int .u32 0, .int .u32 0, .int .i64 0, .int .u64 0, .int .i64 0, .slice none 0 0, .slice none 0 0, .int .u32 0, .int .u32 0], .bool false]) w10) := Lib.hid (by rw [HMG.out] at hlk; exact hlk)
            clear hlk HLK
            go_upto_region 20 with (first
              | (refine wpList_value rfl (exec_lookup rfl HLK1.out) ?_)
              | fail)
            clear HLK1
            generalize w10.alloc (.cells #[.int .u32 0, .int .u32 0, .int .i64 0, .int .u64 0, .int .i64 0, .slice none 0 0, .slice none 0 0, .int .u32 0, .int .u32 0] 40) = w11 at *
            obtain ⟨g11, hg11⟩ : ∃ g, g = w10.heap.size := ⟨_, rfl⟩
            rw [← hg11] at q11 ⊢
            have HCB := Lib.hid (belowGo HCA.out b11)
            have Q11 := Lib.hid q11
            have Q7 := Lib.hid (Q7.out.after b11)
            have Q10 := Lib.hid (Q10.out.after b11)
            clear hg11 b11 q11 HCA
            go_wp2_with fail
            go_roundw
            case rel => exact ⟨k + 1, by omega, by omega, by have := HKN.out; rw [← this]; go_num, belowGo HBX.out HCB.out⟩
            case measure => have := HKN.out; simp [intOf]; omega
          | some r =>
            obtain ⟨x, hx⟩ : ∃ x, mget M kc = some x := by
              have := HM.out
              rw [hlo] at this
              cases h : mget M kc with
              | none => rw [h] at this; cases this
              | some y => exact ⟨y, rfl⟩
            have hxr : x.r = r := by
              have := HM.out
              rw [hlo, hx] at this
              injection this
            subst hxr
            rw [hlo] at H1 HH2
            have HMG := Lib.hid hx
            clear hlo hx
            by_cases hkg : kc = gn
            · have HH2 : Hid (S'.head [kc] = none) := Lib.hid (by rw [HH2.out, if_pos hkg])
              subst hkg
              go_wp2_with fail
              refine H1.out.mono ?_
              rintro e w6 ⟨he, b6⟩
              have he : e = .returned (.tuple #[.agg #[.int .u32 (x.r.at_.1 : Int), .int .u32 (x.r.at_.2 : Int), .int .u64 (x.r.q : Int), .int .i64 x.r.k], .bool true]) := he
              subst he
              have HC6 := Lib.hid (belowGo B0.out b6)
              clear H1 b6
              have b7 := belowAlloc (Below.refl w6.heap.size w6) (.cells #[.int .u32 (x.r.at_.1 : Int), .int .u32 (x.r.at_.2 : Int), .int .u64 (x.r.q : Int), .int .i64 x.r.k] 42)
              have q7 := Blk.new w6 42 #[.int .u32 (x.r.at_.1 : Int), .int .u32 (x.r.at_.2 : Int), .int .u64 (x.r.q : Int), .int .i64 x.r.k]
              go_upto_region 18 with fail
              generalize w6.alloc (.cells #[.int .u32 (x.r.at_.1 : Int), .int .u32 (x.r.at_.2 : Int), .int .u64 (x.r.q : Int), .int .i64 x.r.k] 42) = w7 at *
              obtain ⟨g7, hg7⟩ : ∃ g, g = w6.heap.size := ⟨_, rfl⟩
              rw [← hg7] at q7 ⊢
              have HC7 := Lib.hid (belowGo HC6.out b7)
              have Q7 := Lib.hid q7
              clear hg7 b7 q7 HC6
              have b8 := belowAlloc (Below.refl w7.heap.size w7) (.cells #[.int .u8 (kc.toNat : Int)] 5)
              have q8 := Blk.new w7 5 #[.int .u8 (kc.toNat : Int)]
              have h2 := headlk_any [kc] (some ⟨w7.heap.size, 0, none⟩) 1 1 (w7.alloc (.cells #[.int .u8 (kc.toNat : Int)] 5)) ((TWX.out.snd.after HC7.out).after b8) (by omega) (by omega) (bcell_rd q8 rfl rfl (by unfold maxLen; omega))
              rw [HH2.out] at h2
              have H2 := Lib.hid h2
              have HC8 := Lib.hid (belowGo HC7.out b8)
              have Q7 := Lib.hid (Q7.out.after b8)
              clear b8 q8 h2
              go_wp2_with fail
              refine H2.out.mono ?_
              rintro e w9 ⟨he, b9⟩
              have he : e = .returned (.tuple #[.agg #[.int .u32 0, .int .u32 0, .int .u64 0, .int .i64 0], .bool false]) := he
              subst he
              have HC9 := Lib.hid (belowGo HC8.out b9)
              have Q7 := Lib.hid (Q7.out.after b9)
              clear H2 b9
              have b10 := belowAlloc (Below.refl w9.heap.size w9) (.cells #[.int .u32 0, .int .u32 0, .int .u64 0, .int .i64 0] 42)
              have q10 := Blk.new w9 42 #[.int .u32 0, .int .u32 0, .int .u64 0, .int .i64 0]
              go_upto_region 19 with fail
              generalize w9.alloc (.cells #[.int .u32 0, .int .u32 0, .int .u64 0, .int .i64 0] 42) = w10 at *
              obtain ⟨g10, hg10⟩ : ∃ g, g = w9.heap.size := ⟨_, rfl⟩
              rw [← hg10] at q10 ⊢
              have HCA := Lib.hid (belowGo HC9.out b10)
              have Q10 := Lib.hid q10
              have Q7 := Lib.hid (Q7.out.after b10)
              clear hg10 b10 q10 HC9 HC8 HC7
              have b11 := belowAlloc (Below.refl w10.heap.size w10) (.cells #[.int .u32 (x.r.at_.1 : Int), .int .u32 (x.r.at_.2 : Int), .int .i64 0, .int .u64 (x.r.q : Int), .int .i64 x.r.k, .slice (some ⟨x.g, 0, none⟩) 1 x.cp, .slice none 0 0, .int .u32 (x.r.pv.1 : Int), .int .u32 (x.r.pv.2 : Int)] 40)
              have q11 := Blk.new w10 40 #[.int .u32 (x.r.at_.1 : Int), .int .u32 (x.r.at_.2 : Int), .int .i64 0, .int .u64 (x.r.q : Int), .int .i64 x.r.k, .slice (some ⟨x.g, 0, none⟩) 1 x.cp, .slice none 0 0, .int .u32 (x.r.pv.1 : Int), .int .u32 (x.r.pv.2 : Int)]
              have hlk := HLK.out w10 HCA.out
              have HLK1 : Hid ((Instr.lookup 29 (.map (some bl)) (.int .u8 (kc.toNat : Int)) true).run Try.prog w10 = .ok (.tuple #[.agg #[.int .u32 (x.r.at_.1 : Int), .int .u32 (x.r.at_.2 : Int), .int .i64 0, .int .u64 (x.r.q : Int), .int .i64 x.r.k, .slice (some ⟨x.g, 0, none⟩) 1 x.cp, .slice none 0 0, .int .u32 (x.r.pv.1 : Int), .int .u32 (x.r.pv.2 : Int)], .bool true]) w10) := Lib.hid (by rw [HMG.out] at hlk; exact hlk)
              clear hlk HLK
              go_upto_region 20 with (first
                | (refine wpList_value rfl (exec_lookup rfl HLK1.out) ?_)
                | fail)
              clear HLK1
              generalize w10.alloc (.cells #[.int .u32 (x.r.at_.1 : Int), .int .u32 (x.r.at_.2 : Int), .int .i64 0, .int .u64 (x.r.q : Int), .int .i64 x.r.k, .slice (some ⟨x.g, 0, none⟩) 1 x.cp, .slice none 0 0, .int .u32 (x.r.pv.1 : Int), .int .u32 (x.r.pv.2 : Int)] 40) = w11 at *
              obtain ⟨g11, hg11⟩ : ∃ g, g = w10.heap.size := ⟨_, rfl⟩
              rw [← hg11] at q11 ⊢
              have HCB := Lib.hid (belowGo HCA.out b11)
              have Q11 := Lib.hid q11
              have Q7 := Lib.hid (Q7.out.after b11)
              have Q10 := Lib.hid (Q10.out.after b11)
              clear hg11 b11 q11 HCA
              have hat7 : At w11 g7 0 [.int .u32 (x.r.at_.1 : Int), .int .u32 (x.r.at_.2 : Int)] := fun k v hv => by
                rw [Q7.out.cell]
                match k, hv with
                | 0, hv => exact hv
                | 1, hv => exact hv
                | k + 2, hv => simp at hv
              have hat11 : At w11 g11 0 [.int .u32 (x.r.at_.1 : Int), .int .u32 (x.r.at_.2 : Int)] := fun k v hv => by
                rw [Q11.out.cell]
                match k, hv with
                | 0, hv => exact hv
                | 1, hv => exact hv
                | k + 2, hv => simp at hv
              have HAT7 := Lib.hid hat7
              have HAT11 := Lib.hid hat11
              clear hat7 hat11
              have c72 := Q7.out.cell 2
              have c73 := Q7.out.cell 3
              have c113 := Q11.out.cell 3
              have c114 := Q11.out.cell 4
              have ql := equal_loc x.r.at_.1 x.r.at_.2 x.r.at_.1 x.r.at_.2 w11
              rw [show decide (x.r.at_.1 = x.r.at_.1 ∧ x.r.at_.2 = x.r.at_.2) = true by simp] at ql
              have QL := Lib.hid ql
              have qh := equal_head (hdR x.r) (hdR x.r) w11
              rw [show decide (hdR x.r = hdR x.r) = true by simp] at qh
              have QH := Lib.hid qh
              clear ql qh
              go_wp2_with (first
                | (refine wpList_value rfl (exec_load_mid rfl rfl HAT7.out Try.underlying34 rfl (by kernel_rfl)) ?_)
                | (refine wpList_value rfl (exec_load_mid rfl rfl HAT11.out Try.underlying34 rfl (by kernel_rfl)) ?_)
                | (refine wpList_value (v := .bool false) rfl (exec_bin rfl (run_neq_agg (by kernel_rfl) QL.out)) ?_)
                | (refine wpList_value rfl (exec_load_blk rfl rfl Q10.out Try.underlying42 rfl (by kernel_rfl)) ?_)
                | (refine wpList_value rfl (exec_load_blk rfl rfl Q7.out Try.underlying42 rfl (by kernel_rfl)) ?_)
                | (refine wpList_value (v := .bool false) rfl (exec_bin rfl (run_neq_agg (by kernel_rfl) QH.out)) ?_)
                | fail)
              go_roundw
              case rel => exact ⟨k + 1, by omega, by omega, by have := HKN.out; rw [← this]; go_num, belowGo HBX.out HCB.out⟩
              case measure => have := HKN.out; simp [intOf]; omega
            · have HH2 : Hid (S'.head [kc] = some (hdR x.r)) := Lib.hid (by rw [HH2.out, if_neg hkg]; rfl)
              have i2 : ¬ ((kc.toNat : Int) = (gn.toNat : Int)) := fun e => hkg (UInt8.toNat_inj.1 (by exact_mod_cast e))
              have i3 : ((kc.toNat : Int) != (gn.toNat : Int)) = true := by simpa using i2
              have HKG := Lib.hid hkg
              clear hkg
              go_wp2_with fail
              refine H1.out.mono ?_
              rintro e w6 ⟨he, b6⟩
              have he : e = .returned (.tuple #[.agg #[.int .u32 (x.r.at_.1 : Int), .int .u32 (x.r.at_.2 : Int), .int .u64 (x.r.q : Int), .int .i64 x.r.k], .bool true]) := he
              subst he
              have HC6 := Lib.hid (belowGo B0.out b6)
              clear H1 b6
              have b7 := belowAlloc (Below.refl w6.heap.size w6) (.cells #[.int .u32 (x.r.at_.1 : Int), .int .u32 (x.r.at_.2 : Int), .int .u64 (x.r.q : Int), .int .i64 x.r.k] 42)
              have q7 := Blk.new w6 42 #[.int .u32 (x.r.at_.1 : Int), .int .u32 (x.r.at_.2 : Int), .int .u64 (x.r.q : Int), .int .i64 x.r.k]
              go_upto_region 18 with fail
              generalize w6.alloc (.cells #[.int .u32 (x.r.at_.1 : Int), .int .u32 (x.r.at_.2 : Int), .int .u64 (x.r.q : Int), .int .i64 x.r.k] 42) = w7 at *
              obtain ⟨g7, hg7⟩ : ∃ g, g = w6.heap.size := ⟨_, rfl⟩
              rw [← hg7] at q7 ⊢
              have HC7 := Lib.hid (belowGo HC6.out b7)
              have Q7 := Lib.hid q7
              clear hg7 b7 q7 HC6
              have b8 := belowAlloc (Below.refl w7.heap.size w7) (.cells #[.int .u8 (kc.toNat : Int)] 5)
              have q8 := Blk.new w7 5 #[.int .u8 (kc.toNat : Int)]
              have h2 := headlk_any [kc] (some ⟨w7.heap.size, 0, none⟩) 1 1 (w7.alloc (.cells #[.int .u8 (kc.toNat : Int)] 5)) ((TWX.out.snd.after HC7.out).after b8) (by omega) (by omega) (bcell_rd q8 rfl rfl (by unfold maxLen; omega))
              rw [HH2.out] at h2
              have H2 := Lib.hid h2
              have HC8 := Lib.hid (belowGo HC7.out b8)
              have Q7 := Lib.hid (Q7.out.after b8)
              clear b8 q8 h2
              go_wp2_with fail
              refine H2.out.mono ?_
              rintro e w9 ⟨he, b9⟩
              have he : e = .returned (.tuple #[.agg #[.int .u32 (x.r.at_.1 : Int), .int .u32 (x.r.at_.2 : Int), .int .u64 (x.r.q : Int), .int .i64 x.r.k], .bool true]) := he
              subst he
              have HC9 := Lib.hid (belowGo HC8.out b9)
              have Q7 := Lib.hid (Q7.out.after b9)
              clear H2 b9
              have b10 := belowAlloc (Below.refl w9.heap.size w9) (.cells #[.int .u32 (x.r.at_.1 : Int), .int .u32 (x.r.at_.2 : Int), .int .u64 (x.r.q : Int), .int .i64 x.r.k] 42)
              have q10 := Blk.new w9 42 #[.int .u32 (x.r.at_.1 : Int), .int .u32 (x.r.at_.2 : Int), .int .u64 (x.r.q : Int), .int .i64 x.r.k]
              go_upto_region 19 with fail
              generalize w9.alloc (.cells #[.int .u32 (x.r.at_.1 : Int), .int .u32 (x.r.at_.2 : Int), .int .u64 (x.r.q : Int), .int .i64 x.r.k] 42) = w10 at *
              obtain ⟨g10, hg10⟩ : ∃ g, g = w9.heap.size := ⟨_, rfl⟩
              rw [← hg10] at q10 ⊢
              have HCA := Lib.hid (belowGo HC9.out b10)
              have Q10 := Lib.hid q10
              have Q7 := Lib.hid (Q7.out.after b10)
              clear hg10 b10 q10 HC9 HC8 HC7
              have b11 := belowAlloc (Below.refl w10.heap.size w10) (.cells #[.int .u32 (x.r.at_.1 : Int), .int .u32 (x.r.at_.2 : Int), .int .i64 0, .int .u64 (x.r.q : Int), .int .i64 x.r.k, .slice (some ⟨x.g, 0, none⟩) 1 x.cp, .slice none 0 0, .int .u32 (x.r.pv.1 : Int), .int .u32 (x.r.pv.2 : Int)] 40)
              have q11 := Blk.new w10 40 #[.int .u32 (x.r.at_.1 : Int), .int .u32 (x.r.at_.2 : Int), .int .i64 0, .int .u64 (x.r.q : Int), .int .i64 x.r.k, .slice (some ⟨x.g, 0, none⟩) 1 x.cp, .slice none 0 0, .int .u32 (x.r.pv.1 : Int), .int .u32 (x.r.pv.2 : Int)]
              have hlk := HLK.out w10 HCA.out
              have HLK1 : Hid ((Instr.lookup 29 (.map (some bl)) (.int .u8 (kc.toNat : Int)) true).run Try.prog w10 = .ok (.tuple #[.agg #[.int .u32 (x.r.at_.1 : Int), .int .u32 (x.r.at_.2 : Int), .int .i64 0, .int .u64 (x.r.q : Int), .int .i64 x.r.k, .slice (some ⟨x.g, 0, none⟩) 1 x.cp, .slice none 0 0, .int .u32 (x.r.pv.1 : Int), .int .u32 (x.r.pv.2 : Int)], .bool true]) w10) := Lib.hid (by rw [HMG.out] at hlk; exact hlk)
              clear hlk HLK
              go_upto_region 20 with (first
                | (refine wpList_value rfl (exec_lookup rfl HLK1.out) ?_)
                | fail)
              clear HLK1
              generalize w10.alloc (.cells #[.int .u32 (x.r.at_.1 : Int), .int .u32 (x.r.at_.2 : Int), .int .i64 0, .int .u64 (x.r.q : Int), .int .i64 x.r.k, .slice (some ⟨x.g, 0, none⟩) 1 x.cp, .slice none 0 0, .int .u32 (x.r.pv.1 : Int), .int .u32 (x.r.pv.2 : Int)] 40) = w11 at *
              obtain ⟨g11, hg11⟩ : ∃ g, g = w10.heap.size := ⟨_, rfl⟩
              rw [← hg11] at q11 ⊢
              have HCB := Lib.hid (belowGo HCA.out b11)
              have Q11 := Lib.hid q11
              have Q7 := Lib.hid (Q7.out.after b11)
              have Q10 := Lib.hid (Q10.out.after b11)
              clear hg11 b11 q11 HCA
              have hat7 : At w11 g7 0 [.int .u32 (x.r.at_.1 : Int), .int .u32 (x.r.at_.2 : Int)] := fun k v hv => by
                rw [Q7.out.cell]
                match k, hv with
                | 0, hv => exact hv
                | 1, hv => exact hv
                | k + 2, hv => simp at hv
              have hat11 : At w11 g11 0 [.int .u32 (x.r.at_.1 : Int), .int .u32 (x.r.at_.2 : Int)] := fun k v hv => by
                rw [Q11.out.cell]
                match k, hv with
                | 0, hv => exact hv
                | 1, hv => exact hv
                | k + 2, hv => simp at hv
              have HAT7 := Lib.hid hat7
              have HAT11 := Lib.hid hat11
              clear hat7 hat11
              have c72 := Q7.out.cell 2
              have c73 := Q7.out.cell 3
              have c113 := Q11.out.cell 3
              have c114 := Q11.out.cell 4
              have ql := equal_loc x.r.at_.1 x.r.at_.2 x.r.at_.1 x.r.at_.2 w11
              rw [show decide (x.r.at_.1 = x.r.at_.1 ∧ x.r.at_.2 = x.r.at_.2) = true by simp] at ql
              have QL := Lib.hid ql
              have qh := equal_head (hdR x.r) (hdR x.r) w11
              rw [show decide (hdR x.r = hdR x.r) = true by simp] at qh
              have QH := Lib.hid qh
              clear ql qh
              go_wp2_with (first
                | (refine wpList_value rfl (exec_load_mid rfl rfl HAT7.out Try.underlying34 rfl (by kernel_rfl)) ?_)
                | (refine wpList_value rfl (exec_load_mid rfl rfl HAT11.out Try.underlying34 rfl (by kernel_rfl)) ?_)
                | (refine wpList_value (v := .bool false) rfl (exec_bin rfl (run_neq_agg (by kernel_rfl) QL.out)) ?_)
                | (refine wpList_value rfl (exec_load_blk rfl rfl Q10.out Try.underlying42 rfl (by kernel_rfl)) ?_)
                | (refine wpList_value rfl (exec_load_blk rfl rfl Q7.out Try.underlying42 rfl (by kernel_rfl)) ?_)
                | (refine wpList_value (v := .bool false) rfl (exec_bin rfl (run_neq_agg (by kernel_rfl) QH.out)) ?_)
                | fail)
              go_roundw
              case rel => exact ⟨k + 1, by omega, by omega, by have := HKN.out; rw [← this]; go_num, belowGo HBX.out HCB.out⟩
              case measure => have := HKN.out; simp [intOf]; omega
        · obtain rfl : k = 105 := by omega
          have hby := fun W (hW : Below wr.heap.size wr W) => (((HBY.out.after TW.out.low).after HBX.out).after hW).look gn
          obtain ⟨Ac, cc, hcur, hcc⟩ := own_cap (HBY.out.cur gn)
          rw [hcur] at hby
          unfold u8V at hby
          obtain ⟨nL, hnL⟩ : ∃ n, n = (curD D gn).2.length := ⟨_, rfl⟩
          rw [← hnL] at hby
          obtain ⟨r0, hr0⟩ : ∃ n, n = S'.ahead.length := ⟨_, rfl⟩
          have hsum : (j : Int) - (nL : Int) = (r0 : Int) := by
            have h1 := IS'.out.len
            have h2 := outR_len d gn
            have h3 := HHO.out gn
            have h4 := HND.out
            rw [hnL, hr0, h3, h1]
            omega
          have HLOOK := Lib.hid hby
          have LEN := Lib.hid (fun W (hW : Below wr.heap.size wr W) => lenlk_any W ((TW.out.snd.after HBX.out).after hW))
          rw [← hr0] at LEN
          have WR := Lib.hid (fun W (hW : Below wr.heap.size wr W) => wronglk_any W ((TW.out.snd.after HBX.out).after hW) (by rw [IS'.out.wrong]; simp))
          rw [IS'.out.wrong] at WR
          have KN := Lib.hid (fun W => knowsL_any W)
          have HLOW := Lib.hid (belowGo HB1.out (TW.out.low.trans (HBX.out.mono TW.out.low.size)))
          clear hby hcur hcc hnL hr0 hk
          go_upto_region 22 with fail
          have hcur : Below wr.heap.size wr wr.drew := ⟨rfl, rfl, rfl, Nat.le_refl _, fun _ _ => rfl⟩
          refine wp_region_plan (fun W => Below wr.heap.size wr W) [.calms [0, 2, 3, 4, 5], .read 6, .calms [7, 8], .act 1, .calms [9, 10, 11], .act 12, .calms [13, 14, 15, 16], .act 17, .calms [18, 19]] (by kernel_rfl) (by rfl) (by kernel_rfl) (by kernel_rfl) hcur ?_
          generalize wr.drew = w5 at *
          have HC := Lib.hid hcur
          clear hcur
          refine plan_calms (by simp [calmRow, need]; rfl) ?_
          go_wp2_with fail
          refine plan_read (by rfl) (.slice Ac nL cc) (by rfl) (fun W hW => exec_lookup rfl (HLOOK.out W hW)) ?_
          refine plan_calms (by simp [calmRow, need, chk]; rfl) ?_
          go_wp2_with fail
          refine plan_act (by rfl) ?_
          go_wp2_with fail
          refine (LEN.out w5 HC.out).mono ?_
          rintro e w6 ⟨rfl, rfl⟩
          go_wp2_with fail
          refine ⟨HC.out, ?_⟩
          refine plan_calms (by simp [calmRow, need, chk]; rfl) ?_
          go_wp2_with fail
          refine plan_last (by rfl) (by kernel_rfl) ?_
          go_wp2_with fail
          refine (WR.out w5 HC.out).mono ?_
          rintro e w6 ⟨v6, rfl, o6, b6⟩
          obtain ⟨A6, c6, rfl, -⟩ := own_cap o6
          have HC := Lib.hid (belowGo HC.out b6)
          clear o6 b6
          go_wp2_with fail
          refine plan_calms (by simp [calmRow, need, chk]; rfl) ?_
          go_wp2_with fail
          refine plan_last (by rfl) (by kernel_rfl) ?_
          go_wp2_with fail
          refine (KN.out w6).mono ?_
          rintro e w7 ⟨rfl, b7⟩
          have HC := Lib.hid (belowGo HC.out b7)
          clear b7
          go_wp2_with fail
          refine plan_calms (by simp [calmRow, need]; rfl) ?_
          go_wp2_with fail
          refine plan_end ?_
          go_wp2_with fail
          exact bodyPost_ret (results_tmp rfl _ _ _) rfl ⟨rfl, belowGo HLOW.out HC.out⟩
end Go.Proofs.Ytnkkieiofpplgaa
