/- The document's examples: wakes. -/
import Derived.Test.YtkkhojealihghaaPlFive
namespace Go.Proofs.Ytkkhojealihghaa
open Go.RowKit
attribute [local go_sem] Oper.semAt_some

/-- a plan that Of has laid, in a block of its own -/
structure PlB (w : World) (g : Nat) (As Al : Option Addr) (ns cs nl cl : Nat) (S : List Sp) (L : List Se) : Prop where
  blk : Blk w g 33 #[.slice As ns cs, .slice Al nl cl]
  rs : Rd w w.heap.size 5 As ns (spCells S)
  rl : Rd w w.heap.size 5 Al nl (seCells L)
  ns : S.length = ns
  nl : L.length = nl
theorem PlB.after {w w' : World} {g : Nat} {As Al : Option Addr} {ns cs nl cl : Nat} {S : List Sp} {L : List Se} (h : PlB w g As Al ns cs nl cl S L) (hb : Below w.heap.size w w') : PlB w' g As Al ns cs nl cl S L := ⟨h.blk.after hb, (h.rs.below hb (Nat.le_refl _)).more hb.size, (h.rl.below hb (Nat.le_refl _)).more hb.size, h.ns, h.nl⟩
/-- what Of tells, in plain words -/
theorem RetPlan.open {w w' : World} {r : Nat × PSt} {e : Ending} (h : RetPlan w r e w') {k : Nat} {S : List Sp} {L : List Se} (hk : r.1 = k) (hs : r.2.steps = S) (hl : r.2.seals = L) : ∃ (As Al : Option Addr) (cs cl : Nat), e = .returned (.tuple #[.agg #[.slice As S.length cs, .slice Al L.length cl], .int .i64 (k : Int)]) ∧ Rd w' w'.heap.size 5 As S.length (spCells S) ∧ Rd w' w'.heap.size 5 Al L.length (seCells L) ∧ Below w.heap.size w w' := by
  obtain ⟨vs, vl, he, os, ol, b⟩ := h
  subst hk hs hl
  obtain ⟨As, cs, rfl, -⟩ := own_cap os
  obtain ⟨Al, cl, rfl, -⟩ := own_cap ol
  exact ⟨As, Al, cs, cl, he, own_rd os, own_rd ol, b⟩
theorem eq_sp_self (l : List Sp) (A : Option Addr) (n c : Nat) (A' : Option Addr) (n' c' : Nat) (w : World) (hln : l.length = n) (hmn : l.length = n') (r : Rd w w.heap.size 5 A n (spCells l)) (r' : Rd w w.heap.size 5 A' n' (spCells l)) (hn : n ≤ 1000000) :
    Calls Try.prog 29 #[.slice A n c, .slice A' n' c'] w fun e w' => e = .returned (.bool true) ∧ Below w.heap.size w w' := by
  have := eq_sp_any l l A n c A' n' c' w hln hmn r r' hn
  rwa [decide_eq_true rfl] at this
theorem eq_se_self (l : List Se) (A : Option Addr) (n c : Nat) (A' : Option Addr) (n' c' : Nat) (w : World) (hln : l.length = n) (hmn : l.length = n') (r : Rd w w.heap.size 5 A n (seCells l)) (r' : Rd w w.heap.size 5 A' n' (seCells l)) (hn : n ≤ 1000000) :
    Calls Try.prog 19 #[.slice A n c, .slice A' n' c'] w fun e w' => e = .returned (.bool true) ∧ Below w.heap.size w w' := by
  have := eq_se_any l l A n c A' n' c' w hln hmn r r' hn
  rwa [decide_eq_true rfl] at this
set_option maxRecDepth 100000 in
set_option maxHeartbeats 8000000 in
theorem wakes_any (w : World) : Calls Try.prog 10 #[] w fun e w' => e = .returned (.bool true) ∧ Below w.heap.size w w' := by
  have HB := Lib.hid (Below.refl w.heap.size w)
  go_enter Try.func10, Try.ntmps10
  go_wp2_with fail
  refine (five_any w).mono ?_
  rintro e wx1 ⟨Ax, cx, Xx, rfl, hX, ow, hx, b1⟩
  have RW := Lib.hid (own_rd ow)
  have HXX := Lib.hid hX
  have HX := Lib.hid hx
  have HB := Lib.hid (belowGo HB.out b1)
  clear ow hX hx b1
  have r2 := own_rd (own_lit1 (B := 0) wx1 26 #[.int .u64 5] 1 (Nat.zero_le _) rfl (by decide))
  have b2 := belowAlloc (Below.refl wx1.heap.size wx1) (.cells #[.int .u64 5] 26)
  have OF : Calls Try.prog 9 #[.slice Ax 5 cx, .slice (some ⟨wx1.heap.size, 0, none⟩) 1 1, .int .i64 4096, .int .u32 9] (wx1.alloc (.cells #[.int .u64 5] 26)) (RetPlan (wx1.alloc (.cells #[.int .u64 5] 26)) (planOf (Xx.map ItX.it) [5] 4096 9)) := planOf_any Xx Ax 5 cx [5] _ 1 1 4096 9 _ (by have := congrArg List.length HXX.out; simpa [fiveL] using this) (by omega) ((RW.out.below b2 (Nat.le_refl _)).more b2.size) (fun x hx => (HX.out x hx).after b2) (fun x hx => by
    have h1 : x.it ∈ fiveL := by rw [← HXX.out]; exact List.mem_map_of_mem hx
    simp only [fiveL, List.mem_cons, List.not_mem_nil, or_false] at h1
    rcases h1 with h | h | h | h | h <;> rw [h] <;> decide) rfl r2
  rw [HXX.out] at OF
  have OFH := Lib.hid OF
  have HB := Lib.hid (belowGo HB.out b2)
  clear OF r2 b2
  go_wp2_with fail
  clear RW HX HXX
  generalize wx1.alloc (.cells #[.int .u64 5] 26) = wx2 at *
  refine OFH.out.mono ?_
  rintro e wx3 hret
  obtain ⟨Asx, Alx, csx, clx, rfl, rs, rl, b3⟩ := hret.open wk1.1 wk1.2 rfl
  clear hret OFH
  obtain ⟨Lx, hLx⟩ : ∃ l, l = (planOf fiveL [5] 4096 9).2.seals := ⟨_, rfl⟩
  rw [← hLx] at rl ⊢
  clear hLx
  have b4 := belowAlloc (Below.refl wx3.heap.size wx3) (.cells #[.slice none 0 0, .slice none 0 0] 33)
  have q4 := Blk.new wx3 33 #[.slice none 0 0, .slice none 0 0]
  have b5 := row_below b4 (Nat.le_refl _) #[.slice Asx 1 csx, .slice Alx Lx.length clx]
  have Px := Lib.hid (show PlB _ _ Asx Alx 1 csx Lx.length clx [⟨4, (9, 16), (0, 0)⟩] Lx from ⟨q4.row #[.slice Asx 1 csx, .slice Alx Lx.length clx], (rs.below b5 (Nat.le_refl _)).more b5.size, (rl.below b5 (Nat.le_refl _)).more b5.size, rfl, rfl⟩)
  go_upto_region 2 with (first
    | (refine wpList_storeB rfl 33 (.tmp 1) (.tmp 12) rfl rfl rfl q4 Try.szPlan rfl (by simp [Value.oneCell']) ?_)
    | fail)
  have HB := Lib.hid (belowGo (belowGo HB.out b3) b5)
  generalize (wx3.alloc (.cells #[.slice none 0 0, .slice none 0 0] 33)).setRow wx3.heap.size #[.slice Asx 1 csx, .slice Alx Lx.length clx] = wx4 at *
  obtain ⟨gx, hg⟩ : ∃ g, g = wx3.heap.size := ⟨_, rfl⟩
  rw [← hg] at Px ⊢
  clear rs rl b3 b4 q4 b5 hg
  go_wp2_with fail
  refine (five_any wx4).mono ?_
  rintro e wy1 ⟨Ay, cy, Xy, rfl, hX, ow, hx, b1⟩
  have RW := Lib.hid (own_rd ow)
  have HXX := Lib.hid hX
  have HX := Lib.hid hx
  have HB := Lib.hid (belowGo HB.out b1)
  have Px := Lib.hid (Px.out.after b1)
  clear ow hX hx b1
  have r2 := own_rd (own_lit1 (B := 0) wy1 26 #[.int .u64 1, .int .u64 5] 2 (Nat.zero_le _) rfl (by decide))
  have b2 := belowAlloc (Below.refl wy1.heap.size wy1) (.cells #[.int .u64 1, .int .u64 5] 26)
  have OF : Calls Try.prog 9 #[.slice Ay 5 cy, .slice (some ⟨wy1.heap.size, 0, none⟩) 2 2, .int .i64 4096, .int .u32 9] (wy1.alloc (.cells #[.int .u64 1, .int .u64 5] 26)) (RetPlan (wy1.alloc (.cells #[.int .u64 1, .int .u64 5] 26)) (planOf (Xy.map ItX.it) [1, 5] 4096 9)) := planOf_any Xy Ay 5 cy [1, 5] _ 2 2 4096 9 _ (by have := congrArg List.length HXX.out; simpa [fiveL] using this) (by omega) ((RW.out.below b2 (Nat.le_refl _)).more b2.size) (fun x hx => (HX.out x hx).after b2) (fun x hx => by
    have h1 : x.it ∈ fiveL := by rw [← HXX.out]; exact List.mem_map_of_mem hx
    simp only [fiveL, List.mem_cons, List.not_mem_nil, or_false] at h1
    rcases h1 with h | h | h | h | h <;> rw [h] <;> decide) rfl r2
  rw [HXX.out] at OF
  have OFH := Lib.hid OF
  have HB := Lib.hid (belowGo HB.out b2)
  have Px := Lib.hid (Px.out.after b2)
  clear OF r2 b2
  go_wp2_with fail
  clear RW HX HXX
  generalize wy1.alloc (.cells #[.int .u64 1, .int .u64 5] 26) = wy2 at *
  refine OFH.out.mono ?_
  rintro e wy3 hret
  obtain ⟨Asy, Aly, csy, cly, rfl, rs, rl, b3⟩ := hret.open wk2.1 wk2.2.1 wk2.2.2
  clear hret OFH
  have b4 := belowAlloc (Below.refl wy3.heap.size wy3) (.cells #[.slice none 0 0, .slice none 0 0] 33)
  have q4 := Blk.new wy3 33 #[.slice none 0 0, .slice none 0 0]
  have b5 := row_below b4 (Nat.le_refl _) #[.slice Asy 3 csy, .slice Aly 1 cly]
  have Py := Lib.hid (show PlB _ _ Asy Aly 3 csy 1 cly [⟨0, (9, 16), (0, 0)⟩, ⟨3, (9, 46), (9, 16)⟩, ⟨4, (9, 76), (0, 0)⟩] [⟨9, 106, 3, 1, 5⟩] from ⟨q4.row #[.slice Asy 3 csy, .slice Aly 1 cly], (rs.below b5 (Nat.le_refl _)).more b5.size, (rl.below b5 (Nat.le_refl _)).more b5.size, rfl, rfl⟩)
  go_upto_region 3 with (first
    | (refine wpList_storeB rfl 33 (.tmp 3) (.tmp 18) rfl rfl rfl q4 Try.szPlan rfl (by simp [Value.oneCell']) ?_)
    | fail)
  have HB := Lib.hid (belowGo (belowGo HB.out b3) b5)
  have Px := Lib.hid (Px.out.after (belowGo b3 b5))
  generalize (wy3.alloc (.cells #[.slice none 0 0, .slice none 0 0] 33)).setRow wy3.heap.size #[.slice Asy 3 csy, .slice Aly 1 cly] = wy4 at *
  obtain ⟨gy, hg⟩ : ∃ g, g = wy3.heap.size := ⟨_, rfl⟩
  rw [← hg] at Py ⊢
  clear rs rl b3 b4 q4 b5 hg
  go_wp2_with fail
  refine (five_any wy4).mono ?_
  rintro e wz1 ⟨Az, cz, Xz, rfl, hX, ow, hx, b1⟩
  have RW := Lib.hid (own_rd ow)
  have HXX := Lib.hid hX
  have HX := Lib.hid hx
  have HB := Lib.hid (belowGo HB.out b1)
  have Px := Lib.hid (Px.out.after b1)
  have Py := Lib.hid (Py.out.after b1)
  clear ow hX hx b1
  have OF : Calls Try.prog 9 #[.slice Az 5 cz, .slice none 0 0, .int .i64 4096, .int .u32 9] wz1 (RetPlan wz1 (planOf (Xz.map ItX.it) [] 4096 9)) := planOf_any Xz Az 5 cz [] none 0 0 4096 9 _ (by have := congrArg List.length HXX.out; simpa [fiveL] using this) (by omega) RW.out HX.out (fun x hx => by
    have h1 : x.it ∈ fiveL := by rw [← HXX.out]; exact List.mem_map_of_mem hx
    simp only [fiveL, List.mem_cons, List.not_mem_nil, or_false] at h1
    rcases h1 with h | h | h | h | h <;> rw [h] <;> decide) rfl ⟨rfl, by decide, fun h => absurd h (by omega)⟩
  rw [HXX.out] at OF
  have OFH := Lib.hid OF
  clear OF
  go_wp2_with fail
  clear RW HX HXX
  refine OFH.out.mono ?_
  rintro e wz3 hret
  obtain ⟨Asz, Alz, csz, clz, rfl, rs, rl, b3⟩ := hret.open wk3.1 wk3.2.1 wk3.2.2
  clear hret OFH
  have b4 := belowAlloc (Below.refl wz3.heap.size wz3) (.cells #[.slice none 0 0, .slice none 0 0] 33)
  have q4 := Blk.new wz3 33 #[.slice none 0 0, .slice none 0 0]
  have b5 := row_below b4 (Nat.le_refl _) #[.slice Asz 0 csz, .slice Alz 0 clz]
  have Pz := Lib.hid (show PlB _ _ Asz Alz 0 csz 0 clz [] [] from ⟨q4.row #[.slice Asz 0 csz, .slice Alz 0 clz], (rs.below b5 (Nat.le_refl _)).more b5.size, (rl.below b5 (Nat.le_refl _)).more b5.size, rfl, rfl⟩)
  go_upto_region 4 with (first
    | (refine wpList_storeB rfl 33 (.tmp 5) (.tmp 23) rfl rfl rfl q4 Try.szPlan rfl (by simp [Value.oneCell']) ?_)
    | fail)
  have HB := Lib.hid (belowGo (belowGo HB.out b3) b5)
  have Px := Lib.hid (Px.out.after (belowGo b3 b5))
  have Py := Lib.hid (Py.out.after (belowGo b3 b5))
  generalize (wz3.alloc (.cells #[.slice none 0 0, .slice none 0 0] 33)).setRow wz3.heap.size #[.slice Asz 0 csz, .slice Alz 0 clz] = wz4 at *
  obtain ⟨gz, hg⟩ : ∃ g, g = wz3.heap.size := ⟨_, rfl⟩
  rw [← hg] at Pz ⊢
  clear rs rl b3 b4 q4 b5 hg
  have hcur : Below wz4.heap.size wz4 wz4.drew := ⟨rfl, rfl, rfl, Nat.le_refl _, fun _ _ => rfl⟩
  go_wp2_with (first
    | (refine wp_region_plan (fun W => Below wz4.heap.size wz4 W) [.calms [0, 1, 2, 3, 5], .read 4, .act 6, .read 7, .act 8, .act 9, .calms [10, 11, 12, 13, 14, 15, 16, 18, 21, 23, 26], .read 17, .act 19, .read 20, .act 22, .act 24, .read 25, .act 27, .read 28, .act 29, .act 30, .calms [31, 32, 33], .read 34, .read 35, .act 36, .act 37, .calms [38, 39, 40, 41, 42, 43, 44], .read 45, .calms [46, 47, 48, 49, 50], .read 51, .calms [52, 53, 54, 55]] (by kernel_rfl) (by rfl) (by kernel_rfl) (by kernel_rfl) hcur ?_)
    | fail)
  generalize wz4.drew = wd at *
  have HCU := Lib.hid hcur
  clear hcur
  refine plan_calms (by simp [calmRow, need, chk]; rfl) ?_
  go_wp2_with fail
  refine plan_read (by rfl) (.slice Asx 1 csx) (by rfl) (fun W hW => exec_load rfl rfl (by kernel_rfl) ((Px.out.after hW).blk.cell 0)) ?_
  refine plan_act (by rfl) ?_
  go_wp2_with fail
  refine (at9_any 16 wd).mono ?_
  rintro e v1 ⟨rfl, bb⟩
  have HCU := Lib.hid (belowGo HCU.out bb)
  clear bb
  go_wp2_with fail
  refine ⟨HCU.out, ?_⟩
  refine plan_read (by rfl) (.agg #[.int .i64 4, .int .u32 9, .int .u32 16, .int .u32 0, .int .u32 0]) (by rfl) (fun W hW => exec_build rfl (by kernel_rfl)) ?_
  have ro := own_rd (own_lit v1 0 43 #[.int .i64 4, .int .u32 9, .int .u32 16, .int .u32 0, .int .u32 0] 1 5 rfl (Nat.zero_le _) (by decide))
  have bb := belowAlloc (Below.refl v1.heap.size v1) (.cells #[.int .i64 4, .int .u32 9, .int .u32 16, .int .u32 0, .int .u32 0] 43)
  refine plan_act (by rfl) ?_
  go_wp2_with fail
  generalize v1.alloc (.cells #[.int .i64 4, .int .u32 9, .int .u32 16, .int .u32 0, .int .u32 0] 43) = v2 at *
  obtain ⟨hx, hh⟩ : ∃ g, g = v1.heap.size := ⟨_, rfl⟩
  rw [← hh] at ro ⊢
  have RO := Lib.hid ro
  have HCU := Lib.hid (belowGo HCU.out bb)
  clear hh bb ro
  refine ⟨HCU.out, ?_⟩
  have EQ := Lib.hid (eq_sp_self [⟨4, (9, 16), (0, 0)⟩] Asx 1 csx (some ⟨hx, 0, none⟩) 1 1 v2 rfl rfl (Px.out.after HCU.out).rs RO.out (by decide))
  refine plan_act (by rfl) ?_
  go_wp2_with fail
  refine EQ.out.mono ?_
  rintro e v3 ⟨rfl, bb⟩
  have HCU := Lib.hid (belowGo HCU.out bb)
  clear bb EQ RO
  go_wp2_with fail
  refine ⟨HCU.out, ?_⟩
  refine plan_calms (by simp [calmRow, need, chk]; rfl) ?_
  go_wp2_with fail
  refine plan_read (by rfl) (.slice Asy 3 csy) (by rfl) (fun W hW => exec_load rfl rfl (by kernel_rfl) ((Py.out.after hW).blk.cell 0)) ?_
  refine plan_act (by rfl) ?_
  go_wp2_with fail
  refine (at9_any 16 v3).mono ?_
  rintro e v4 ⟨rfl, bb⟩
  have HCU := Lib.hid (belowGo HCU.out bb)
  clear bb
  go_wp2_with fail
  refine ⟨HCU.out, ?_⟩
  refine plan_read (by rfl) (.agg #[.int .i64 0, .int .u32 9, .int .u32 16, .int .u32 0, .int .u32 0]) (by rfl) (fun W hW => exec_build rfl (by kernel_rfl)) ?_
  refine plan_act (by rfl) ?_
  go_wp2_with fail
  refine (at9_any 46 v4).mono ?_
  rintro e v5 ⟨rfl, bb⟩
  have HCU := Lib.hid (belowGo HCU.out bb)
  clear bb
  go_wp2_with fail
  refine ⟨HCU.out, ?_⟩
  refine plan_act (by rfl) ?_
  go_wp2_with fail
  refine (at9_any 16 v5).mono ?_
  rintro e v6 ⟨rfl, bb⟩
  have HCU := Lib.hid (belowGo HCU.out bb)
  clear bb
  go_wp2_with fail
  refine ⟨HCU.out, ?_⟩
  refine plan_read (by rfl) (.agg #[.int .i64 3, .int .u32 9, .int .u32 46, .int .u32 9, .int .u32 16]) (by rfl) (fun W hW => exec_build rfl (by kernel_rfl)) ?_
  refine plan_act (by rfl) ?_
  go_wp2_with fail
  refine (at9_any 76 v6).mono ?_
  rintro e v7 ⟨rfl, bb⟩
  have HCU := Lib.hid (belowGo HCU.out bb)
  clear bb
  go_wp2_with fail
  refine ⟨HCU.out, ?_⟩
  refine plan_read (by rfl) (.agg #[.int .i64 4, .int .u32 9, .int .u32 76, .int .u32 0, .int .u32 0]) (by rfl) (fun W hW => exec_build rfl (by kernel_rfl)) ?_
  have ro := own_rd (own_lit v7 0 43 #[.int .i64 0, .int .u32 9, .int .u32 16, .int .u32 0, .int .u32 0, .int .i64 3, .int .u32 9, .int .u32 46, .int .u32 9, .int .u32 16, .int .i64 4, .int .u32 9, .int .u32 76, .int .u32 0, .int .u32 0] 3 5 rfl (Nat.zero_le _) (by decide))
  have bb := belowAlloc (Below.refl v7.heap.size v7) (.cells #[.int .i64 0, .int .u32 9, .int .u32 16, .int .u32 0, .int .u32 0, .int .i64 3, .int .u32 9, .int .u32 46, .int .u32 9, .int .u32 16, .int .i64 4, .int .u32 9, .int .u32 76, .int .u32 0, .int .u32 0] 43)
  refine plan_act (by rfl) ?_
  go_wp2_with fail
  generalize v7.alloc (.cells #[.int .i64 0, .int .u32 9, .int .u32 16, .int .u32 0, .int .u32 0, .int .i64 3, .int .u32 9, .int .u32 46, .int .u32 9, .int .u32 16, .int .i64 4, .int .u32 9, .int .u32 76, .int .u32 0, .int .u32 0] 43) = v8 at *
  obtain ⟨hy, hh⟩ : ∃ g, g = v7.heap.size := ⟨_, rfl⟩
  rw [← hh] at ro ⊢
  have RO := Lib.hid ro
  have HCU := Lib.hid (belowGo HCU.out bb)
  clear hh bb ro
  refine ⟨HCU.out, ?_⟩
  have EQ := Lib.hid (eq_sp_self [⟨0, (9, 16), (0, 0)⟩, ⟨3, (9, 46), (9, 16)⟩, ⟨4, (9, 76), (0, 0)⟩] Asy 3 csy (some ⟨hy, 0, none⟩) 3 3 v8 rfl rfl (Py.out.after HCU.out).rs RO.out (by decide))
  refine plan_act (by rfl) ?_
  go_wp2_with fail
  refine EQ.out.mono ?_
  rintro e v9 ⟨rfl, bb⟩
  have HCU := Lib.hid (belowGo HCU.out bb)
  clear bb EQ RO
  go_wp2_with fail
  refine ⟨HCU.out, ?_⟩
  refine plan_calms (by simp [calmRow, need]; rfl) ?_
  go_wp2_with fail
  refine plan_read (by rfl) (.slice Aly 1 cly) (by rfl) (fun W hW => exec_load rfl rfl (by kernel_rfl) ((Py.out.after hW).blk.cell 1)) ?_
  refine plan_read (by rfl) (.agg #[.int .u32 9, .int .u32 106, .int .u32 3, .int .u64 1, .int .u64 5]) (by rfl) (fun W hW => exec_build rfl (by kernel_rfl)) ?_
  have ro := own_rd (own_lit v9 0 70 #[.int .u32 9, .int .u32 106, .int .u32 3, .int .u64 1, .int .u64 5] 1 5 rfl (Nat.zero_le _) (by decide))
  have bb := belowAlloc (Below.refl v9.heap.size v9) (.cells #[.int .u32 9, .int .u32 106, .int .u32 3, .int .u64 1, .int .u64 5] 70)
  refine plan_act (by rfl) ?_
  go_wp2_with fail
  generalize v9.alloc (.cells #[.int .u32 9, .int .u32 106, .int .u32 3, .int .u64 1, .int .u64 5] 70) = v10 at *
  obtain ⟨hs, hh⟩ : ∃ g, g = v9.heap.size := ⟨_, rfl⟩
  rw [← hh] at ro ⊢
  have RO := Lib.hid ro
  have HCU := Lib.hid (belowGo HCU.out bb)
  clear hh bb ro
  refine ⟨HCU.out, ?_⟩
  have EQ := Lib.hid (eq_se_self [⟨9, 106, 3, 1, 5⟩] Aly 1 cly (some ⟨hs, 0, none⟩) 1 1 v10 rfl rfl (Py.out.after HCU.out).rl RO.out (by decide))
  refine plan_act (by rfl) ?_
  go_wp2_with fail
  refine EQ.out.mono ?_
  rintro e v11 ⟨rfl, bb⟩
  have HCU := Lib.hid (belowGo HCU.out bb)
  clear bb EQ RO
  go_wp2_with fail
  refine ⟨HCU.out, ?_⟩
  refine plan_calms (by simp [calmRow, need, chk]; rfl) ?_
  go_wp2_with fail
  refine plan_read (by rfl) (.slice Asz 0 csz) (by rfl) (fun W hW => exec_load rfl rfl (by kernel_rfl) ((Pz.out.after hW).blk.cell 0)) ?_
  refine plan_calms (by simp [calmRow, need, chk]; rfl) ?_
  go_wp2_with fail
  refine plan_read (by rfl) (.slice Alz 0 clz) (by rfl) (fun W hW => exec_load rfl rfl (by kernel_rfl) ((Pz.out.after hW).blk.cell 1)) ?_
  refine plan_calms (by simp [calmRow, need, chk]; rfl) ?_
  go_wp2_with fail
  refine plan_end ?_
  go_wp2_with fail
  exact bodyPost_ret (results_tmp rfl _ _ _) rfl ⟨rfl, belowGo HB.out HCU.out⟩
end Go.Proofs.Ytkkhojealihghaa
