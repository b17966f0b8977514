/- SeenLinks: the walk. For every row of keys, every number. -/
import Derived.Test.YtldeldjbpngbkaaSlLaw
import Derived.Test.YtldeldjbpngbkaaSn7
import Derived.Test.YtldeldjbpngbkaaHdEq
import Derived.Deep.CutBlock
namespace Go.Proofs.Ytldeldjbpngbkaa
open Go.RowKit
open Go.ChangeMaps (setBlock)
attribute [local go_sem] Oper.semAt_some

def u8V (c : UInt8) : Value := .int .u8 (c.toNat : Int)
def u64V (q : Nat) : Value := .int .u64 (q : Int)
def verC (q : Nat) : List Value := [.int .u64 (q : Int), .int .i64 1]
theorem u8_keyed : Maps.Keyed Try.prog 5 := Maps.int_keyed Try.underlying5
theorem u8V_inj (x y : UInt8) (_ : True) (_ : True) (h : u8V x = u8V y) : x = y := by
  unfold u8V at h
  injection h with _ h
  exact UInt8.toNat_inj.1 (by exact_mod_cast h)
theorem u8_key (c : UInt8) : ∃ kl, keyOf Try.prog 5 (u8V c) = some kl := by
  have := c.toNat_lt
  refine ⟨.int .u8 (c.toNat : Int), ?_⟩
  unfold keyOf u8V
  simp only [Try.underlying5]
  unfold mapKey
  simp only [Try.underlying5]
  rw [if_pos]
  refine ⟨trivial, ?_⟩
  simp [Lit.wf, IntKind.min, IntKind.max, IntKind.bits, IntKind.signed]
  omega
theorem run_bool_ne (p q : Operand) (b : Bool) (W : World) : (do eqGuard .neq 4 p q (.bool b) (.bool b); binOp .neq 4 (.bool b) (.bool b) : Sem Value).run Try.prog W = .ok (.bool false) W := by
  cases b <;> rfl
abbrev ByS (w : World) (B b : Nat) (D : List (UInt8 × (Value × List Nat))) : Prop := ByK Try.prog 5 39 2 (fun _ => True) u8V verC w B b D
abbrev Sq (w : World) (b : Nat) (M : List ((Nat × Nat) × Nat)) : Prop := Mt Try.prog 29 w b LOk locP u64V M
theorem Try.infoVer : (Try.prog.info? 39).map (fun i => (i.zero, i.size, i.bytes)) = some (some (.agg #[.int .u64 0, .int .i64 0]), 2, 16) := by kernel_rfl
theorem eltVer : Elt Try.prog 37 39 (.agg #[.int .u64 0, .int .i64 0]) 2 16 := ⟨Try.underlying37, Try.infoVer, rfl, by omega⟩

set_option maxRecDepth 100000 in
set_option maxHeartbeats 8000000 in
theorem slinks_walk (l : List UInt8) (A : Option Addr) (n c : Nat) (o : UInt8) (w : World) (hn : l.length = n) (hr : Rd w w.heap.size 1 A n (bcells l)) :
    Calls Try.prog 3 #[.slice A n c, .int .u8 (o.toNat : Int)] w fun e w' => e = .returned (.bool true) ∧ Below w.heap.size w w' := by
  have HN := Lib.hid hn
  have HR := Lib.hid hr
  have N1 := Lib.hid (newlk_any w)
  clear hn hr
  go_enter Try.func3, Try.ntmps3
  go_wp2_with fail
  refine N1.out.mono ?_
  rintro e w1 ⟨rfl, x1, b1⟩
  have X1 := Lib.hid x1
  have B1 := Lib.hid b1
  obtain ⟨gx, hgx⟩ : ∃ g, g = w.heap.size + 1 + 1 := ⟨_, rfl⟩
  obtain ⟨hx, hhx⟩ : ∃ g, g = w.heap.size := ⟨_, rfl⟩
  obtain ⟨ax, hax⟩ : ∃ g, g = w.heap.size + 1 := ⟨_, rfl⟩
  have X1 : Hid (Lk w1 w.heap.size gx hx ax (.slice none 0 0) ⟨[], [], [], 0⟩) := Lib.hid (by rw [hgx, hhx, hax]; exact x1)
  have hb1 : w1.heap.size ≠ hx ∧ w1.heap.size ≠ ax ∧ w1.heap.size + 1 ≠ hx ∧ w1.heap.size + 1 ≠ ax := by
    have h1 := X1.out.lt hx (by simp [lkF])
    have h2 := X1.out.lt ax (by simp [lkF])
    omega
  rw [← hgx]
  have HB0 := Lib.hid hb1
  clear N1 hgx hhx hax x1 b1 hb1
  have hmk : ∀ W, (Instr.makeMap 25 none).run Try.prog W = .ok (.map (some W.heap.size)) (W.alloc (.map #[] 0)) := fun W => run_makeMap _ W
  have hml : ∀ W, (Instr.makeMap 26 none).run Try.prog W = .ok (.map (some W.heap.size)) (W.alloc (.map #[] 0)) := fun W => run_makeMap _ W
  have m1 := (ByK.new (γ := Nat) w1 : ByS _ _ _ []).after (belowAlloc (Below.refl _ _) (.map #[] 0))
  have m2 : Sq ((w1.alloc (.map #[] 0)).alloc (.map #[] 0)) (w1.alloc (.map #[] 0)).heap.size [] := Mt.new _ _ _
  rw [show (w1.alloc (.map #[] 0)).heap.size = w1.heap.size + 1 by simp] at m2
  have x2 := X1.out.after (belowAlloc (belowAlloc (Below.refl w1.heap.size w1) (.map #[] 0)) (.map #[] 0))
  have b2 := belowAlloc (belowAlloc B1.out (.map #[] 0)) (.map #[] 0)
  have HS1 := Lib.hid B1.out.size
  go_upto_region 6 with fail
  generalize (w1.alloc (.map #[] 0)).alloc (.map #[] 0) = w2 at *
  obtain ⟨bb, hbb⟩ : ∃ b, b = w1.heap.size := ⟨_, rfl⟩
  have BY2 : Hid (ByS w2 w.heap.size bb []) := Lib.hid (by rw [hbb]; exact m1.low HS1.out)
  have SQ2 : Hid (Sq w2 (bb + 1) []) := Lib.hid (by rw [hbb]; exact m2)
  have HB0 : Hid (bb ≠ hx ∧ bb ≠ ax ∧ bb + 1 ≠ hx ∧ bb + 1 ≠ ax) := Lib.hid (by rw [hbb]; exact HB0.out)
  have HBB : Hid (w.heap.size ≤ bb) := Lib.hid (by rw [hbb]; exact HS1.out)
  rw [← hbb]
  have X2 := Lib.hid x2
  have B2 := Lib.hid b2
  clear hmk hml m1 m2 x2 b2 hbb X1 B1 HS1
  obtain ⟨d, hd⟩ : ∃ d, d = seR (l.take 60) := ⟨_, rfl⟩
  have HD := Lib.hid hd
  clear hd
  go_upto_block 0 with fail
  go_cut [8] from 9 to 71 (fun i wx => ∃ (S : LS) (v : Value) (wrong : List (Nat × Nat)) (D : List (UInt8 × (Value × List Nat))) (M : List ((Nat × Nat) × Nat)), Lk wx w.heap.size gx hx ax v S ∧ Is S d wrong ∧ ByS wx w.heap.size bb D ∧ (∀ c, (curK D c).2 = (rcs d c).map LR.q) ∧ (∀ p ∈ D, p.2.2 ≠ []) ∧ Sq wx (bb + 1) M ∧ seqsTo M d ∧ Below w.heap.size w wx)
  case first =>
    go_wp2_with fail
    go_loopw [8] (fun i wr => ∃ (j : Nat) (S : LS) (v : Value) (wrong : List (Nat × Nat)) (D : List (UInt8 × (Value × List Nat))) (M : List ((Nat × Nat) × Nat)), j ≤ n ∧ j ≤ 60 ∧ i = .int .i64 (j : Int) ∧ Lk wr w.heap.size gx hx ax v S ∧ Is S (seR (l.take j)) wrong ∧ wrong.length ≤ j ∧ ByS wr w.heap.size bb D ∧ (∀ c, (curK D c).2 = (rcs (seR (l.take j)) c).map LR.q) ∧ (∀ p ∈ D, p.2.2 ≠ []) ∧ Sq wr (bb + 1) M ∧ seqsTo M (seR (l.take j)) ∧ Below w.heap.size w wr) (fun i _ => 60 - (intOf i).toNat)
    case atStart => exact ⟨0, _, _, [], [], [], Nat.zero_le _, Nat.zero_le _, rfl, X2.out, Is.nil, Nat.le_refl _, BY2.out, fun _ => rfl, (fun p hp => by cases hp), SQ2.out, (fun r hr => by cases hr), B2.out⟩
    case round =>
      clear X2 BY2 SQ2 B2
      obtain ⟨j, S, v, wrong, D, M, hj, hj60, rfl, lk, is, hwl, by_, hcur, hne, sq, hsq, hb⟩ := hrel
      have LK := Lib.hid lk
      have IS := Lib.hid is
      have HWL := Lib.hid hwl
      have BY : Hid (ByS _ _ _ _) := Lib.hid by_
      have HCUR := Lib.hid hcur
      have HNE := Lib.hid hne
      have SQ : Hid (Sq _ _ _) := Lib.hid sq
      have HSQ := Lib.hid hsq
      have HB := Lib.hid hb
      clear lk is hwl by_ hcur hne sq hsq hb
      by_cases hin : j < n ∧ j < 60
      · obtain ⟨h1, h2⟩ := hin
        have i1 : (j : Int) < (n : Int) := by omega
        have i2 : (j : Int) < 60 := by omega
        obtain ⟨p, off, rfl, hpl, hcell⟩ := HR.out.2.2 (by omega)
        obtain ⟨s, hs⟩ : ∃ s, l[j]? = some s := ⟨l[j]'(by rw [HN.out]; exact h1), List.getElem?_eq_getElem _⟩
        have htk : l.take (j + 1) = l.take j ++ [s] := by rw [List.take_add_one, hs]; rfl
        have ck : wr.cell? ⟨p, off + j, none⟩ = some (.int .u8 (s.toNat : Int)) := (HB.out.cell (p := ⟨p, off + j, none⟩) hpl).trans (hcell j _ (by unfold bcells; rw [List.getElem?_map, hs]; rfl))
        obtain ⟨d, hd⟩ : ∃ d, d = seR (l.take j) := ⟨_, rfl⟩
        have hdl : d.length = j := by rw [hd, seR_len, List.length_take]; have := HN.out; omega
        have hgd := (seR_gd (j + 1) (l.take (j + 1)) (by rw [List.length_take]; have := HN.out; omega) (by omega)).1
        rw [htk, seR_snoc, ← hd] at hgd
        obtain ⟨ch, hch⟩ : ∃ ch, ch = UInt8.ofNat (97 + s.toNat % 8) := ⟨_, rfl⟩
        have hsl := s.toNat_lt
        have e8 : 97 + (s.toNat : Int) % 8 = (ch.toNat : Int) := by
          rw [hch, UInt8.toNat_ofNat']
          omega
        obtain ⟨r, hr⟩ : ∃ r, r = nextS d s := ⟨_, rfl⟩
        obtain ⟨of, hof⟩ : ∃ m, m = 16 + 30 * j := ⟨_, rfl⟩
        obtain ⟨qn, hqn⟩ : ∃ m, m = j + 1 := ⟨_, rfl⟩
        have EO : Hid (16 + 30 * (j : Int) = (of : Int)) := Lib.hid (by omega)
        have EQ : Hid ((j : Int) + 1 = (qn : Int)) := Lib.hid (by omega)
        have hra : r.at_ = (1, of) := by rw [hr, hof]; show (1, 16 + 30 * d.length) = _; rw [hdl]
        have hrq : r.q = qn := by rw [hr, hqn]; show d.length + 1 = _; rw [hdl]
        have hrk : r.k = 1 := by rw [hr]; rfl
        have hrc : r.c = ch := by rw [hr, hch]; rfl
        rw [← hr] at hgd
        obtain ⟨-, hft⟩ := hgd.get (i := d.length) (r := r) (by simp)
        rw [List.take_left] at hft
        have HFT := Lib.hid hft
        rw [← hd] at IS HCUR HSQ
        have HTK : Hid (seR (l.take (j + 1)) = d ++ [r]) := Lib.hid (by rw [htk, seR_snoc, ← hd, hr])
        obtain ⟨hc0, hi1⟩ := IS.out.add hft (0, 0) rfl
        rw [hra, hrq, hrk] at hc0
        rw [hra, hrq, hrk, hrc] at hi1
        have HI1 := Lib.hid hi1
        have HRA := Lib.hid hra
        have HRQ := Lib.hid hrq
        have HRC := Lib.hid hrc
        have E8 := Lib.hid e8
        have HOF : Hid (of < 4294967296) := Lib.hid (by omega)
        clear hcell hs htk hd hdl hgd hch hsl e8 hr hra hrq hrk hrc hft hi1 hof hqn
        have b3 := belowAlloc (belowAlloc (Below.refl wr.heap.size wr) (.cells #[.int .u8 (ch.toNat : Int)] 5)) (.cells #[.int .u32 1, .int .u32 (of : Int), .int .i64 0, .int .u64 (qn : Int), .int .i64 1, .slice (some ⟨wr.heap.size, 0, none⟩) 1 1, .slice none 0 0, .int .u32 0, .int .u32 0] 34)
        have q3 := Blk.newAt (wr.alloc (.cells #[.int .u8 (ch.toNat : Int)] 5)) 34 #[.int .u32 1, .int .u32 (of : Int), .int .i64 0, .int .u64 (qn : Int), .int .i64 1, .slice (some ⟨wr.heap.size, 0, none⟩) 1 1, .slice none 0 0, .int .u32 0, .int .u32 0] (g := wr.heap.size + 1) (by simp)
        have qk := (Blk.new wr 5 #[.int .u8 (ch.toNat : Int)]).alloc (.cells #[.int .u32 1, .int .u32 (of : Int), .int .i64 0, .int .u64 (qn : Int), .int .i64 1, .slice (some ⟨wr.heap.size, 0, none⟩) 1 1, .slice none 0 0, .int .u32 0, .int .u32 0] 34)
        have NG : Hid (∀ g', wr.heap.size ≤ g' → some g' ∉ lkF gx hx ax v) := Lib.hid fun g' hg hm => by have := LK.out.lt _ hm; omega
        go_upto_region 11 with fail
        rw [E8.out, EO.out, EQ.out]
        generalize (wr.alloc (.cells #[.int .u8 (ch.toNat : Int)] 5)).alloc (.cells #[.int .u32 1, .int .u32 (of : Int), .int .i64 0, .int .u64 (qn : Int), .int .i64 1, .slice (some ⟨wr.heap.size, 0, none⟩) 1 1, .slice none 0 0, .int .u32 0, .int .u32 0] 34) = w3 at *
        obtain ⟨gk, hgk⟩ : ∃ g, g = wr.heap.size := ⟨_, rfl⟩
        rw [← hgk] at NG
        have LK3 := Lib.hid (LK.out.after b3)
        have BY3 : Hid (ByS _ _ _ _) := Lib.hid (BY.out.after b3)
        have SQ3 : Hid (Sq _ _ _) := Lib.hid (SQ.out.kp (s := []) (Kp.of_new b3) (by simp))
        have HB3 := Lib.hid (belowGo HB.out b3)
        rw [← hgk] at q3 qk ⊢
        have Q3 := Lib.hid q3
        have ad := addlk_any (1, of) 0 qn 1 [ch] (some ⟨gk, 0, none⟩) 1 1 none 0 0 (0, 0) w3 LK3.out ⟨(by decide : (1 : Nat) < 4294967296), HOF.out⟩ (by omega) (by omega) (bcell_rd qk rfl rfl (by unfold maxLen; omega)) (by rw [IS.out.wrong]; have := HWL.out; omega)
        rw [show ([ch] : List UInt8).length = 1 from rfl, hc0] at ad
        have AD := Lib.hid ad
        clear LK BY SQ HB b3 q3 qk ad hc0 hgk ck
        go_wp2_with (first
          | (refine wpList_value rfl (exec_load_blk rfl rfl Q3.out Try.underlying34 rfl (by kernel_rfl)) ?_)
          | fail)
        refine AD.out.mono ?_
        rintro e w5 ⟨v1, rfl, lk5, k5, x5⟩
        have LK5 := Lib.hid lk5
        have BY5 : Hid (ByS _ _ _ _) := Lib.hid (BY3.out.kp k5 (LK3.out.ne_map BY3.out.map.1 HB0.out.1 HB0.out.2.1) fun p hp i hi => LK3.out.ne_own (BY3.out.own p hp) (by decide) (by decide) hi)
        have SQ5 : Hid (Sq _ _ _) := Lib.hid (SQ3.out.kp k5 (LK3.out.ne_map SQ3.out.1 HB0.out.2.2.1 HB0.out.2.2.2))
        have HB5 := Lib.hid (HB3.out.trans (k5.below LK3.out.lo HB3.out.size))
        have Q5 := Lib.hid (Q3.out.kp k5 (NG.out _ (by omega)))
        clear AD lk5 k5 x5 LK3 BY3 SQ3 HB3 Q3 NG
        have hlk := BY5.out.look u8V_inj u8_keyed Try.underlying25 (fun W => (zero_of_info (P := Try.prog) (t := 37) (n := 1) (v := .slice none 0 0) (by kernel_rfl)).1 W) (c := ch) trivial (u8_key ch).choose_spec
        obtain ⟨Ac, cc, hcv, -⟩ := own_cap (BY5.out.cur ch)
        rw [hcv] at hlk
        unfold u8V at hlk
        have HCV := Lib.hid hcv
        have HNL : Hid ((curK D ch).2.length ≤ 60) := Lib.hid (by
          rw [HCUR.out ch, List.length_map]
          unfold rcs
          have h1 := List.length_filter_le (fun r : LR => r.c == ch) d
          have h2 := IS.out.len
          have h3 := congrArg List.length HTK.out
          rw [seR_len, List.length_take, List.length_append, List.length_singleton] at h3
          omega)
        have hat0 : At w5 (gk + 1) 0 [.int .u32 1, .int .u32 (of : Int)] := fun k v hv => by
          rw [Q5.out.cell]
          match k, hv with
          | 0, hv => exact hv
          | 1, hv => exact hv
          | k + 2, hv => simp at hv
        clear hcv hat0
        have OK1 : Hid (LOk (1, of)) := Lib.hid ⟨(by decide : (1 : Nat) < 4294967296), HOF.out⟩
        go_upto_region 14 with (first
          | (at_builtin
             refine wpList_push eltVer rfl (.tmp 59) (.tmp 64) rfl (W := w5) HCV.out.symm (BY5.out.cur ch) rfl rfl (by simp [Value.oneCell']) (by have := HNL.out; omega) (by have := HNL.out; unfold maxLen; omega) HB5.out HB5.out.size ?_
             intro v6 w6 o6 b6 g6 x6
             rw [EQ.out] at o6
             obtain ⟨ob, hrun, hby8, k8⟩ := BY5.out.put u8V_inj u8_keyed Try.underlying25 (c := ch) trivial (u8_key ch).choose_spec qn g6 o6 (fun j hj => by
               rcases x6 with x6 | x6
               · exact .inl (x6.symm.trans hj)
               · right
                 have hj := x6.symm.trans hj
                 injection hj with hj
                 omega)
             have HR8 := Lib.hid hrun
             have BY8 : Hid (ByS _ _ _ _) := Lib.hid hby8
             have lk6 := LK5.out.grown (BY5.out.cur ch) (by decide) (by decide) g6
             have sq6 := SQ5.out.kp (Kp.grown g6) (fun hm => mpo_ne SQ5.out.1 (BY5.out.cur ch) (List.mem_singleton.1 hm))
             have q6 := Q5.out.kp (Kp.grown g6) (fun hm => own_blk_ne Q5.out (BY5.out.cur ch) (by decide) (List.mem_singleton.1 hm))
             have by6 := BY5.out.map.kp (Kp.grown g6) (fun hm => mpo_ne BY5.out.map.1 (BY5.out.cur ch) (List.mem_singleton.1 hm))
             have LK8 := Lib.hid (lk6.setB by6.1 HB0.out.1 HB0.out.2.1 ob)
             have SQ8 : Hid (Sq _ _ _) := Lib.hid (sq6.kp k8 (by simp))
             have Q8 := Lib.hid (q6.kp k8 fun hm => mpb_ne by6.1 q6 (by simpa using (List.mem_singleton.1 hm).symm))
             have HB8 := Lib.hid (setBlock_below b6 HBB.out ob)
             clear o6 b6 g6 x6 hrun hby8 k8 lk6 sq6 q6 by6 hlk LK5 SQ5 Q5 BY5 HB5)
          | (refine wpList_skip rfl (exec_update rfl HR8.out) ?_)
          | fail)
        clear HR8
        generalize setBlock w6 bb ob = w8 at *
        obtain ⟨om, hst, mt9⟩ := SQ8.out.store locP_inj loc_keyed Try.underlying26 (a := (1, of)) OK1.out (loc_key OK1.out).choose_spec qn
        have hst9 : (Instr.mapUpdate 26 (.map (some (bb + 1))) (.agg #[.int .u32 1, .int .u32 (of : Int)]) (.int .u64 (qn : Int))).run Try.prog w8 = .ok () (setBlock w8 (bb + 1) om) := hst
        have HST := Lib.hid hst9
        have SQ9 : Hid (Sq _ _ _) := Lib.hid mt9
        have LK9 := Lib.hid (LK8.out.setB SQ8.out.1 HB0.out.2.2.1 HB0.out.2.2.2 om)
        have BY9 : Hid (ByS _ _ _ _) := Lib.hid (BY8.out.kp (Kp.setBlock w8 (bb + 1) om) (by simp) fun p hp i hi hm => mpo_ne SQ8.out.1 (BY8.out.own p hp) ((List.mem_singleton.1 hm).symm.trans hi.symm))
        have HB9 := Lib.hid (setBlock_below HB8.out (by have := HBB.out; omega : w.heap.size ≤ bb + 1) om)
        have hat0 : At w8 (gk + 1) 0 [.int .u32 1, .int .u32 (of : Int)] := fun k v hv => by
          rw [Q8.out.cell]
          match k, hv with
          | 0, hv => exact hv
          | 1, hv => exact hv
          | k + 2, hv => simp at hv
        have HAT := Lib.hid hat0
        clear hst hst9 mt9 hat0 SQ8 LK8 BY8 HB8
        go_wp2_with (first
          | (refine wpList_value rfl (exec_load_mid rfl rfl HAT.out Try.underlying29 rfl (by kernel_rfl)) ?_)
          | (refine wpList_skip rfl (exec_update rfl (by rw [← EQ.out] at HST; exact HST.out)) ?_)
          | fail)
        go_roundw
        case rel =>
          refine ⟨j + 1, _, v1, _, _, _, by omega, by omega, by go_num, LK9.out, by rw [HTK.out]; exact HI1.out, ?_, BY9.out, fun x => ?_, fun p hp => ?_, SQ9.out, ?_, HB9.out⟩
          · have := HWL.out
            split
            · omega
            · rw [List.length_append, List.length_singleton]
              omega
          · rw [HTK.out, curK_put, rcs_snoc, HRC.out]
            by_cases hx : x = ch
            · rw [if_pos hx, if_pos hx.symm]
              show (curK D ch).2 ++ [qn] = _
              rw [HCUR.out, List.map_append, hx]
              show _ = _ ++ [r.q]
              rw [HRQ.out]
            · rw [if_neg hx, if_neg (fun e => hx e.symm)]
              exact HCUR.out x
          · obtain ⟨y, z⟩ := p
            rcases mem_mput.1 hp with ⟨rfl, rfl⟩ | ⟨_, h⟩
            · simp
            · exact HNE.out _ h
          · have := HSQ.out.put HFT.out
            rw [HRA.out, HRQ.out] at this
            rw [HTK.out]
            exact this
        case measure => simp [intOf]; omega
      · have HE : Hid (l.take j = l.take 60) := Lib.hid (by
          have hn := HN.out
          by_cases h60 : j = 60
          · rw [h60]
          · rw [List.take_of_length_le (by omega), List.take_of_length_le (by omega)])
        rw [HE.out, ← HD.out] at IS HCUR HSQ
        by_cases hjn : j < n
        · have i1 : (j : Int) < (n : Int) := by omega
          have i2 : ¬ ((j : Int) < 60) := by omega
          go_wp2_with fail
          go_meet
          case rel => exact ⟨S, v, wrong, D, M, LK.out, IS.out, BY.out, HCUR.out, HNE.out, SQ.out, HSQ.out, HB.out⟩
        · have i1 : ¬ ((j : Int) < (n : Int)) := by omega
          go_wp2_with fail
          go_meet
          case rel => exact ⟨S, v, wrong, D, M, LK.out, IS.out, BY.out, HCUR.out, HNE.out, SQ.out, HSQ.out, HB.out⟩
  obtain ⟨S, v, wrong, D, M, lk, is, by_, hcur, hne, sq, hsq, hb⟩ := hcut
  clear X2 BY2 SQ2 B2
  have LK := Lib.hid lk
  have IS := Lib.hid is
  have BY : Hid (ByS _ _ _ _) := Lib.hid by_
  have HCUR := Lib.hid hcur
  have HNE := Lib.hid hne
  have SQ : Hid (Sq _ _ _) := Lib.hid sq
  have HSQ := Lib.hid hsq
  have HB := Lib.hid hb
  clear lk is by_ hcur hne sq hsq hb
  have hgd := seR_gd (l.take 60).length (l.take 60) rfl (by rw [List.length_take]; omega)
  have hat := seR_at hgd.2
  have hdl : d.length ≤ 60 := by rw [HD.out, seR_len, List.length_take]; omega
  rw [← HD.out] at hgd hat
  have GD := Lib.hid hgd.1
  have HATS := Lib.hid hat
  have HDL := Lib.hid hdl
  clear hgd hat hdl
  obtain ⟨w0, hrange, rg0, b0, hs0⟩ := BY.out.map.range Try.underlying25
  have HRANGE := Lib.hid hrange
  obtain ⟨rr, hrr⟩ : ∃ r, r = wc.heap.size := ⟨_, rfl⟩
  rw [← hrr] at HRANGE rg0
  have RG0 := Lib.hid rg0
  have B0 := Lib.hid b0
  have HRR := Lib.hid hrr
  clear hrange rg0 b0 hs0 hrr
  go_wp2_with (first
    | (refine wpList_value rfl (exec_range rfl HRANGE.out) ?_)
    | fail)
  go_frame
  go_loopw [] (fun wx => ∃ T, Rg wx bb rr u8V (fun p : Value × List Nat => p.1) T ∧ (∀ p ∈ T, p ∈ D) ∧ Below wc.heap.size wc wx) (fun wx => wx.rangeLeft bb rr)
  case atStart => exact ⟨D, RG0.out, fun _ h => h, B0.out⟩
  case round =>
    clear RG0 B0
    obtain ⟨T, rg, hT, hbx⟩ := hrel
    rcases rg.next (P := Try.prog) 0 with ⟨hnil, hrun⟩ | ⟨q, T', w1, hq, hperm, hrun, rg1, k1, hs1, hent⟩
    · have HN1 := Lib.hid hrun
      have HBX := Lib.hid hbx
      clear rg hT hnil hrun hbx
      go_wp2_with (first
        | (refine wpList_value rfl (exec_next rfl HN1.out) ?_)
        | fail)
      refine (Sn.knows_any _).mono ?_
      rintro e w2 ⟨rfl, b2⟩
      have HB2 := Lib.hid b2
      clear b2
      go_wp2_with fail
      exact bodyPost_ret (results_tmp rfl _ _ _) rfl ⟨rfl, belowGo (HB.out.trans (HBX.out.mono HB.out.size)) HB2.out⟩
    · obtain ⟨ch, vv, qs⟩ := q
      have hqD := hT _ hq
      have hw1 : Below wc.heap.size wc w1 := hbx.trans (k1.below (fun i hi => by have := HRR.out; simp at hi; omega) hbx.size)
      have hT' : ∀ p ∈ T', p ∈ D := fun p hp => hT p (hperm.mem_iff.2 (List.mem_cons_of_mem _ hp))
      have hlen : T.length = T'.length + 1 := by rw [hperm.length_eq]; rfl
      have hcq : curK D ch = (vv, qs) := by unfold curK; rw [mget_mem BY.out.map.nodup hqD]; rfl
      have hqs : qs = (rcs d ch).map LR.q := by have := HCUR.out ch; rw [hcq] at this; exact this
      obtain ⟨R, hRd⟩ : ∃ R, R = rcs d ch := ⟨_, rfl⟩
      rw [← hRd] at hqs
      have hR : R ≠ [] := fun e => HNE.out _ hqD (by rw [e] at hqs; exact hqs)
      obtain ⟨rl, hrl⟩ : ∃ r, R.getLast? = some r := ⟨_, List.getLast?_eq_some_getLast hR⟩
      have ov : Ow wc w.heap.size 39 2 vv qs.length (qs.flatMap verC) := BY.out.own _ hqD
      obtain ⟨Av, cv, rfl, -⟩ := own_cap ov
      obtain ⟨m, hm⟩ : ∃ m, m = qs.length := ⟨_, rfl⟩
      rw [← hm] at ov hrun hent
      unfold u8V at hrun hent
      have hmR : R.length = m := by rw [hm, hqs, List.length_map]
      have HRG := Lib.hid rg
      have RG1 := Lib.hid rg1
      have HW1 := Lib.hid hw1
      have HT' := Lib.hid hT'
      have HLEN := Lib.hid hlen
      have HQS := Lib.hid hqs
      have HRD := Lib.hid hRd
      have HRL := Lib.hid hrl
      have OV : Hid (Ow _ _ _ _ _ _ _) := Lib.hid ov
      have HMR := Lib.hid hmR
      have HN1 := Lib.hid hrun
      have HE1 := Lib.hid (hent w1 rfl rfl)
      have lk1 := LK.out.after hw1
      have hsh : S.head [ch] = some (hdR rl) := by
        have : S.head [ch] = mget S.heads [ch] := rfl
        rw [this, IS.out.heads, rcs_last, ← hRd, hrl]
        rfl
      have b2 := belowAlloc (Below.refl w1.heap.size w1) (.cells #[.int .u8 (ch.toNat : Int)] 5)
      have q2 := Blk.new w1 5 #[.int .u8 (ch.toNat : Int)]
      have h1 := headlk_any [ch] (some ⟨w1.heap.size, 0, none⟩) 1 1 (w1.alloc (.cells #[.int .u8 (ch.toNat : Int)] 5)) (lk1.after b2) (by omega) (by omega) (bcell_rd q2 rfl rfl (by unfold maxLen; omega))
      rw [hsh] at h1
      have H1 := Lib.hid h1
      have B2 := Lib.hid b2
      clear rg rg1 hT hq hperm hrun hent hbx k1 hs1 hqD hw1 hT' hlen hcq hqs hRd hR hrl ov hm hmR lk1 hsh b2 q2 h1
      go_wp2_with (first
        | (refine wpList_value rfl (exec_next rfl HN1.out) ?_)
        | (refine wpList_value rfl (exec_ent rfl HE1.out) ?_)
        | fail)
      refine H1.out.mono ?_
      rintro e w3 ⟨he, b3⟩
      have he : e = .returned (.tuple #[.agg #[.int .u32 (rl.at_.1 : Int), .int .u32 (rl.at_.2 : Int), .int .u64 (rl.q : Int), .int .i64 rl.k], .bool true]) := he
      subst he
      have HC3 := Lib.hid (belowGo B2.out b3)
      clear H1 HN1 HE1 b3 B2
      have b4 := belowAlloc (Below.refl w3.heap.size w3) (.cells #[.int .u32 (rl.at_.1 : Int), .int .u32 (rl.at_.2 : Int), .int .u64 (rl.q : Int), .int .i64 rl.k] 41)
      have q4 := Blk.new w3 41 #[.int .u32 (rl.at_.1 : Int), .int .u32 (rl.at_.2 : Int), .int .u64 (rl.q : Int), .int .i64 rl.k]
      go_upto_region 21 with fail
      generalize w3.alloc (.cells #[.int .u32 (rl.at_.1 : Int), .int .u32 (rl.at_.2 : Int), .int .u64 (rl.q : Int), .int .i64 rl.k] 41) = w4 at *
      obtain ⟨g4, hg4⟩ : ∃ g, g = w3.heap.size := ⟨_, rfl⟩
      rw [← hg4] at q4 ⊢
      have HC4 := Lib.hid (belowGo HC3.out b4)
      have hat0 : At w4 g4 0 [.int .u32 (rl.at_.1 : Int), .int .u32 (rl.at_.2 : Int)] := fun k v hv => by
        rw [q4.cell]
        match k, hv with
        | 0, hv => exact hv
        | 1, hv => exact hv
        | k + 2, hv => simp at hv
      have HAT0 := Lib.hid hat0
      have b5 := belowAlloc (Below.refl w4.heap.size w4) (.cells #[.int .u32 (rl.at_.1 : Int), .int .u32 (rl.at_.2 : Int)] 29)
      have q5 := Blk.new w4 29 #[.int .u32 (rl.at_.1 : Int), .int .u32 (rl.at_.2 : Int)]
      clear hg4 b4 q4 hat0 HC3
      go_upto_block 4 with (first
        | (refine wpList_value rfl (exec_load_mid rfl rfl HAT0.out Try.underlying29 rfl (by kernel_rfl)) ?_)
        | fail)
      generalize w4.alloc (.cells #[.int .u32 (rl.at_.1 : Int), .int .u32 (rl.at_.2 : Int)] 29) = w5 at *
      obtain ⟨ga, hga⟩ : ∃ g, g = w4.heap.size := ⟨_, rfl⟩
      rw [← hga] at q5 ⊢
      have HGA : Hid (wc.heap.size ≤ ga) := Lib.hid (by rw [hga]; exact Nat.le_trans HW1.out.size HC4.out.size)
      have HC5 := Lib.hid (belowGo HC4.out b5)
      have Q5 := Lib.hid q5
      clear hga b5 q5 HC4 HAT0
      obtain ⟨cn, hcn⟩ : ∃ k, k = Sn.cnt (verL R) (o.toNat : Int) := ⟨_, rfl⟩
      have hmay : Sn.mayB (verL R) = true := by rw [HRD.out]; exact GD.out.may ch
      have hcm : cn ≤ m := by have := Sn.cnt_le (verL R) (o.toNat : Int); rw [verL_len, HMR.out] at this; rw [hcn]; exact this
      have hca : ∀ k r, R[k]? = some r → ((r.q : Int) ≤ (o.toNat : Int) ↔ k < cn) := fun k r h => by rw [hcn]; exact cnt_at hmay _ h
      have HCN := Lib.hid hcn
      have HMAY := Lib.hid hmay
      have HCM := Lib.hid hcm
      have HCA := Lib.hid hca
      have HST : Hid (∀ r ∈ R, r ∈ d ∧ standsB r.at_.1 r.at_.2 = true) := Lib.hid (by rw [HRD.out]; exact fun r h => ⟨(rcs_mem h).1, GD.out.stands r (rcs_mem h).1⟩)
      clear hcn hmay hcm hca
      go_cut [14] from 90 to 108 (fun _ wx => Blk wx ga 29 #[.int .u32 ((atK R cn).1 : Int), .int .u32 ((atK R cn).2 : Int)] ∧ Rg wx bb rr u8V (fun p : Value × List Nat => p.1) T' ∧ Below wc.heap.size wc wx)
      case first =>
        go_wp2_with fail
        go_loopw [14] (fun is wx => ∃ jj, jj ≤ m ∧ cn ≤ jj ∧ is = .bool true ∧ Blk wx ga 29 #[.int .u32 ((atK R jj).1 : Int), .int .u32 ((atK R jj).2 : Int)] ∧ Rg wx bb rr u8V (fun p : Value × List Nat => p.1) T' ∧ Below wc.heap.size wc wx) (fun _ wx => match wx.cell? ⟨ga, 1, none⟩ with | some (.int _ x) => x.toNat | _ => 0)
        case atStart =>
          refine ⟨m, Nat.le_refl _, HCM.out, rfl, ?_, RG1.out.after HC5.out, belowGo HW1.out HC5.out⟩
          rw [← HMR.out, atK_len, HRL.out]
          exact Q5.out
        case round =>
          clear RG1 HC5 Q5
          obtain ⟨jj, hjm, hcj, rfl, q, rg, hb⟩ := hrel
          rcases Nat.eq_zero_or_pos jj with h0 | h0
          · subst h0
            rw [atK_0] at q
            have Q0 : Hid (Blk wr ga 29 #[.int .u32 0, .int .u32 0]) := Lib.hid q
            have HC0 : Hid (cn = 0) := Lib.hid (by omega)
            have RG := Lib.hid rg
            have HBX := Lib.hid hb
            have EQL := Lib.hid (fun W => equal_loc 0 0 0 0 W)
            clear q rg hb hjm hcj
            go_wp2_with (first
              | (refine wpList_value rfl (exec_load_blk rfl rfl Q0.out Try.underlying29 rfl (by kernel_rfl)) ?_)
              | (refine wpList_value (v := .bool false) rfl (exec_bin rfl (run_neq_agg (by kernel_rfl) (EQL.out _))) ?_)
              | fail)
            go_meet
            case rel => exact ⟨by rw [HC0.out, atK_0]; exact Q0.out, RG.out, HBX.out⟩
          · obtain ⟨j', rfl⟩ : ∃ k, jj = k + 1 := ⟨jj - 1, by omega⟩
            obtain ⟨r, hr⟩ : ∃ r, R[j']? = some r := ⟨R[j']'(by have := HMR.out; omega), List.getElem?_eq_getElem _⟩
            rw [atK_succ hr] at q
            have Q0 := Lib.hid q
            have hrR := List.mem_of_getElem? hr
            obtain ⟨hrd, hst⟩ := HST.out r hrR
            have hlok := stands_lok hst
            have EQL : Hid (∀ W, (Op.equal 29 (.agg #[.int .u32 (r.at_.1 : Int), .int .u32 (r.at_.2 : Int)]) (.agg #[.int .u32 0, .int .u32 0])).run Try.prog W = .ok false W) := Lib.hid (fun W => by
              have h1 := equal_loc r.at_.1 r.at_.2 0 0 W
              have h2 : ¬ (r.at_.1 = 0 ∧ r.at_.2 = 0) := by
                have := hst
                unfold standsB at this
                have := of_decide_eq_true this
                omega
              rw [decide_eq_false h2] at h1
              exact h1)
            have hlk := fun W (hW : Below wr.heap.size wr W) => (SQ.out.kp (s := []) (Kp.of_new hb) (by simp)).kp (s := []) (Kp.of_new hW) (by simp) |>.look locP_inj loc_keyed Try.underlying26 ((zero_of_info (P := Try.prog) (t := 30) (n := 1) (v := .int .u64 0) (by kernel_rfl)).1 W) (a := r.at_) hlok (loc_key hlok).choose_spec false
            have HLK : Hid (∀ W, Below wr.heap.size wr W → (Instr.lookup 26 (.map (some (bb + 1))) (.agg #[.int .u32 (r.at_.1 : Int), .int .u32 (r.at_.2 : Int)]) false).run Try.prog W = .ok (.int .u64 (r.q : Int)) W) := Lib.hid (fun W hW => by have := hlk W hW; rw [HSQ.out r hrd] at this; exact this)
            have hwo : IntKind.u64.wrap (o.toNat : Int) = (o.toNat : Int) := by rw [IntKind.wrap_u64]; have := o.toNat_lt; omega
            have hah : mget S.ahead r.at_ = some r.pv := IS.out.ahead_get GD.out hrd
            have hpv : r.pv = atK R j' := by rw [HRD.out] at hr ⊢; exact GD.out.chain ch hr
            have RG := Lib.hid rg
            have HBX := Lib.hid hb
            have HR' := Lib.hid hr
            have HCA' := Lib.hid (HCA.out j' r hr)
            have HPV := Lib.hid hpv
            have HLOK := Lib.hid hlok
            have aa := aheadlk_any r.at_ hlok wr (LK.out.after hb)
            rw [hah] at aa
            have AA := Lib.hid aa
            clear q hrR hrd hst hlok hlk hah hpv rg hb hr aa h0
            by_cases hgt : (o.toNat : Int) < (r.q : Int)
            · have HGT : Hid (cn ≤ j') := Lib.hid (by
                rcases Nat.lt_or_ge j' cn with h | h
                · have := HCA'.out.2 h
                  omega
                · exact h)
              go_wp2_with (first
                | (refine wpList_value rfl (exec_load_blk rfl rfl Q0.out Try.underlying29 rfl (by kernel_rfl)) ?_)
                | (refine wpList_value (v := .bool true) rfl (exec_bin rfl (run_neq_agg (by kernel_rfl) (EQL.out _))) ?_)
                | (refine wpList_value rfl (exec_lookup rfl (HLK.out _ (Below.refl _ _))) ?_)
                | fail)
              refine AA.out.mono ?_
              rintro e w7 ⟨he, b7⟩
              have he : e = .returned (.tuple #[.agg #[.int .u32 (r.pv.1 : Int), .int .u32 (r.pv.2 : Int)], .bool true]) := he
              subst he
              have Q7 := Lib.hid (Q0.out.after b7)
              have Q8 := Lib.hid ((Q0.out.after b7).row #[.int .u32 (r.pv.1 : Int), .int .u32 (r.pv.2 : Int)])
              have RG8 := Lib.hid ((RG.out.after b7).of_blocks (row_other (fun e => (RG.out.after b7).owns_ne (Q0.out.after b7) e) #[.int .u32 (r.pv.1 : Int), .int .u32 (r.pv.2 : Int)]) (row_other (fun e => (RG.out.after b7).ne_blk (Q0.out.after b7) e) #[.int .u32 (r.pv.1 : Int), .int .u32 (r.pv.2 : Int)]))
              have HB8 := Lib.hid (row_below (belowGo HBX.out b7) HGA.out #[.int .u32 (r.pv.1 : Int), .int .u32 (r.pv.2 : Int)])
              clear AA b7
              go_wp2_with (first
                | (refine wpList_storeB rfl 29 (.tmp 15) (.tmp 105) rfl rfl rfl Q7.out (by kernel_rfl) (by rfl) (by simp [Value.oneCell']) ?_)
                | fail)
              go_roundw
              case rel => exact ⟨j', by omega, HGT.out, rfl, by rw [← HPV.out]; exact Q8.out, RG8.out, HB8.out⟩
              case measure =>
                rw [show (w7.setRow ga #[.int .u32 (r.pv.1 : Int), .int .u32 (r.pv.2 : Int)]).cell? ⟨ga, 1, none⟩ = some (.int .u32 (r.pv.2 : Int)) from Q8.out.cell 1, show wr.cell? ⟨ga, 1, none⟩ = some (.int .u32 (r.at_.2 : Int)) from Q0.out.cell 1]
                show (r.pv.2 : Int).toNat < (r.at_.2 : Int).toNat
                have h1 := atK_lt (R := R) (fun x hx => by have := HATS.out x (HST.out x hx).1; have := GD.out.fit_q x (HST.out x hx).1; omega) (fun i k x y hx hy hik => by
                  have h1 := HATS.out x (HST.out x (List.mem_of_getElem? hx)).1
                  have h2 := HATS.out y (HST.out y (List.mem_of_getElem? hy)).1
                  have h3 := GD.out.rises ch i k x y (by rw [← HRD.out]; exact hx) (by rw [← HRD.out]; exact hy) hik
                  omega) HR'.out
                rw [atK_succ HR'.out, ← HPV.out] at h1
                omega
            · have HC0 : Hid (cn = j' + 1) := Lib.hid (by have := HCA'.out.1 (by omega); omega)
              go_wp2_with (first
                | (refine wpList_value rfl (exec_load_blk rfl rfl Q0.out Try.underlying29 rfl (by kernel_rfl)) ?_)
                | (refine wpList_value (v := .bool true) rfl (exec_bin rfl (run_neq_agg (by kernel_rfl) (EQL.out _))) ?_)
                | (refine wpList_value rfl (exec_lookup rfl (HLK.out _ (Below.refl _ _))) ?_)
                | fail)
              go_meet
              case rel => exact ⟨by rw [HC0.out, atK_succ HR'.out]; exact Q0.out, RG.out, HBX.out⟩
      obtain ⟨q6, rg6, hb6⟩ := hcut
      clear RG1 HC5 Q5
      have Q6 := Lib.hid q6
      have RG6 := Lib.hid rg6
      have HB6 := Lib.hid hb6
      have hvc : qs.flatMap verC = Sn.vcells (verL R) := by
        rw [HQS.out, List.flatMap_map]
        unfold Sn.vcells verL
        rw [List.flatMap_map]
        rfl
      have ov6 := Ow.after OV.out hb6
      rw [hvc] at ov6
      have hnw := Sn.newest_any (verL R) Av m cv (o.toNat : Int) wc (by rw [verL_len, HMR.out]) (by have h1 := HMR.out; have h2 := HDL.out; have h3 : R.length ≤ d.length := (by rw [HRD.out]; unfold rcs; exact List.length_filter_le _ _); omega) (Rd.of_own ov6)
      have hnk : Sn.newK (verL R) (o.toNat : Int) = cn - 1 := by unfold Sn.newK; rw [if_pos HMAY.out, ← HCN.out]
      have hni : Sn.newIs (verL R) (o.toNat : Int) = decide (0 < cn) := by unfold Sn.newIs; rw [HMAY.out, ← HCN.out]; rfl
      rw [hnk, hni] at hnw
      have hwo : IntKind.u64.wrap (o.toNat : Int) = (o.toNat : Int) := by rw [IntKind.wrap_u64]; have := o.toNat_lt; omega
      have NW := Lib.hid hnw
      clear q6 rg6 hb6 hvc ov6 hnw hnk hni
      rcases Nat.eq_zero_or_pos cn with h0 | h0
      · subst h0
        rw [show decide (0 < 0) = false from rfl, show (((0 : Nat) - 1 : Nat) : Int) = 0 from rfl] at NW
        go_wp2_with fail
        refine NW.out.mono ?_
        rintro e w7 ⟨rfl, b7⟩
        have Q7 : Hid (Blk w7 ga 29 #[.int .u32 0, .int .u32 0]) := Lib.hid (by have := Q6.out.after b7; rw [atK_0] at this; exact this)
        have RG7 := Lib.hid (RG6.out.after b7)
        have HB7 := Lib.hid (belowGo HB6.out b7)
        have EQL := Lib.hid (fun W => equal_loc 0 0 0 0 W)
        clear NW b7
        go_upto_region 27 with fail
        have hcur : Below w7.heap.size w7 w7.drew := ⟨rfl, rfl, rfl, Nat.le_refl _, fun _ _ => rfl⟩
        refine wp_region_plan (fun W => Below w7.heap.size w7 W) [.calms [0], .read 1, .act 2, .act 3, .act 4, .calms [5, 6, 7, 8, 9, 10, 11, 13], .read 12, .act 14, .act 15, .calms [16, 17, 18]] (by kernel_rfl) (by rfl) (by kernel_rfl) (by kernel_rfl) hcur ?_
        generalize w7.drew = w8 at *
        have HC := Lib.hid hcur
        clear hcur
        refine plan_calms (by simp [calmRow, need]; rfl) ?_
        go_wp2_with fail
        refine plan_read (by rfl) (.agg #[.int .u32 0, .int .u32 0]) (by rfl) (fun W hW => exec_load_blk rfl rfl (Q7.out.after hW) Try.underlying29 rfl (by kernel_rfl)) ?_
        refine plan_act (by rfl) ?_
        go_wp2_with fail
        refine ⟨HC.out, ?_⟩
        refine plan_act (by rfl) ?_
        refine wpList_value (v := .bool false) rfl (exec_bin rfl (run_neq_agg (by kernel_rfl) (EQL.out _))) ?_
        go_wp2_with fail
        refine ⟨HC.out, ?_⟩
        refine plan_act (by rfl) ?_
        refine wpList_value (v := .bool false) rfl (exec_bin rfl (run_bool_ne _ _ false _)) ?_
        go_wp2_with fail
        refine ⟨HC.out, ?_⟩
        refine plan_calms (by simp [calmRow, need]; rfl) ?_
        go_wp2_with fail
        refine plan_skipS (some 128) (by rfl) (by rfl) (by rfl) ?_
        refine plan_skipA (some 130) (by rfl) (by rfl) (by rfl) HC.out ?_
        refine plan_skipA (some 131) (by rfl) (by rfl) (by rfl) HC.out ?_
        refine plan_calms (by simp [calmRow, need, chk]; rfl) ?_
        go_wp2_with fail
        refine plan_end ?_
        have RGE := Lib.hid (RG7.out.after HC.out)
        have HBE := Lib.hid (belowGo HB7.out HC.out)
        clear RG7 HB7
        go_wp2_with fail
        go_roundw
        case rel => exact ⟨T', RGE.out, HT'.out, HBE.out⟩
        case measure => rw [RGE.out.left_eq, HRG.out.left_eq, HLEN.out]; omega
      · obtain ⟨k, rfl⟩ : ∃ k, cn = k + 1 := ⟨cn - 1, by omega⟩
        rw [show decide (0 < k + 1) = true from decide_eq_true (by omega), Nat.add_sub_cancel] at NW
        go_wp2_with fail
        refine NW.out.mono ?_
        rintro e w7 ⟨rfl, b7⟩
        obtain ⟨r, hr⟩ : ∃ r, R[k]? = some r := ⟨R[k]'(by have := HMR.out; have := HCM.out; omega), List.getElem?_eq_getElem _⟩
        have q6 := Q6.out
        rw [atK_succ hr] at q6
        have Q7 := Lib.hid (q6.after b7)
        have RG7 := Lib.hid (RG6.out.after b7)
        have HB7 := Lib.hid (belowGo HB6.out b7)
        obtain ⟨hrd, hst⟩ := HST.out r (List.mem_of_getElem? hr)
        have hlok := stands_lok hst
        have EQL : Hid (∀ W, (Op.equal 29 (.agg #[.int .u32 (r.at_.1 : Int), .int .u32 (r.at_.2 : Int)]) (.agg #[.int .u32 0, .int .u32 0])).run Try.prog W = .ok false W) := Lib.hid (fun W => by
          have h1 := equal_loc r.at_.1 r.at_.2 0 0 W
          have h2 : ¬ (r.at_.1 = 0 ∧ r.at_.2 = 0) := by
            have := hst
            unfold standsB at this
            have := of_decide_eq_true this
            omega
          rw [decide_eq_false h2] at h1
          exact h1)
        have hlk := fun W (hW : Below w7.heap.size w7 W) => ((SQ.out.kp (s := []) (Kp.of_new HB7.out) (by simp)).kp (s := []) (Kp.of_new hW) (by simp)).look locP_inj loc_keyed Try.underlying26 ((zero_of_info (P := Try.prog) (t := 30) (n := 1) (v := .int .u64 0) (by kernel_rfl)).1 W) (a := r.at_) hlok (loc_key hlok).choose_spec false
        have HLK : Hid (∀ W, Below w7.heap.size w7 W → (Instr.lookup 26 (.map (some (bb + 1))) (.agg #[.int .u32 (r.at_.1 : Int), .int .u32 (r.at_.2 : Int)]) false).run Try.prog W = .ok (.int .u64 (r.q : Int)) W) := Lib.hid (fun W hW => by have := hlk W hW; rw [HSQ.out r hrd] at this; exact this)
        have hkm : k < m := by have := HCM.out; omega
        have ov7 := Ow.after OV.out HB7.out
        obtain ⟨gv, c9, he, -, -⟩ := own_ptr ov7 (by omega)
        injection he with he he2 he3
        subst he
        have hc0 : ∀ W, Below w7.heap.size w7 W → W.cell? ⟨gv, k * 2, none⟩ = some (.int .u64 (r.q : Int)) := fun W hW => by
          have h1 := flatMap_get verC 2 (fun _ => rfl) qs k 0 (by omega)
          have h2 : (qs.flatMap verC)[k * 2 + 0]? = some (.int .u64 (r.q : Int)) := by
            rw [h1, HQS.out, List.getElem?_map, hr]
            rfl
          have := Ow.cell (Ow.after ov7 hW) rfl (by omega) h2
          rwa [Nat.zero_add] at this
        have HCELL := Lib.hid hc0
        have i1 : (k : Int) < (m : Int) := by omega
        clear NW b7 hr q6 hrd hst hlok hlk hkm ov7 he2 he3 hc0
        go_upto_region 27 with fail
        have hcur : Below w7.heap.size w7 w7.drew := ⟨rfl, rfl, rfl, Nat.le_refl _, fun _ _ => rfl⟩
        refine wp_region_plan (fun W => Below w7.heap.size w7 W) [.calms [0], .read 1, .act 2, .act 3, .act 4, .calms [5, 6, 7, 8, 9, 10, 11, 13], .read 12, .act 14, .act 15, .calms [16, 17, 18]] (by kernel_rfl) (by rfl) (by kernel_rfl) (by kernel_rfl) hcur ?_
        generalize w7.drew = w8 at *
        have HC := Lib.hid hcur
        clear hcur
        refine plan_calms (by simp [calmRow, need]; rfl) ?_
        go_wp2_with fail
        refine plan_read (by rfl) (.agg #[.int .u32 (r.at_.1 : Int), .int .u32 (r.at_.2 : Int)]) (by rfl) (fun W hW => exec_load_blk rfl rfl (Q7.out.after hW) Try.underlying29 rfl (by kernel_rfl)) ?_
        refine plan_act (by rfl) ?_
        go_wp2_with fail
        refine ⟨HC.out, ?_⟩
        refine plan_act (by rfl) ?_
        refine wpList_value (v := .bool true) rfl (exec_bin rfl (run_neq_agg (by kernel_rfl) (EQL.out _))) ?_
        go_wp2_with fail
        refine ⟨HC.out, ?_⟩
        refine plan_act (by rfl) ?_
        refine wpList_value (v := .bool false) rfl (exec_bin rfl (run_bool_ne _ _ true _)) ?_
        go_wp2_with fail
        refine ⟨HC.out, ?_⟩
        refine plan_calms (by simp [calmRow, need]; rfl) ?_
        go_wp2_with fail
        refine plan_read (by rfl) (.int .u64 (r.q : Int)) (by rfl) (fun W hW => exec_load rfl rfl (by kernel_rfl) (HCELL.out W hW)) ?_
        refine plan_act (by rfl) ?_
        refine wpList_value rfl (exec_load_blk rfl rfl (Q7.out.after HC.out) Try.underlying29 rfl (by kernel_rfl)) ?_
        go_wp2_with fail
        refine ⟨HC.out, ?_⟩
        refine plan_act (by rfl) ?_
        refine wpList_value rfl (exec_lookup rfl (HLK.out _ HC.out)) ?_
        go_wp2_with fail
        refine ⟨HC.out, ?_⟩
        refine plan_calms (by simp [calmRow, need, chk]; rfl) ?_
        go_wp2_with fail
        refine plan_end ?_
        have RGE := Lib.hid (RG7.out.after HC.out)
        have HBE := Lib.hid (belowGo HB7.out HC.out)
        clear RG7 HB7
        go_wp2_with fail
        go_roundw
        case rel => exact ⟨T', RGE.out, HT'.out, HBE.out⟩
        case measure => rw [RGE.out.left_eq, HRG.out.left_eq, HLEN.out]; omega
end Go.Proofs.Ytldeldjbpngbkaa
