/- Package key: (Print).Key. For every print. -/
import Derived.Test.YtnkkieiofpplgaaPeq
import Derived.Test.YtnkkieiofpplgaaMid
import Derived.Test.YtnkkieiofpplgaaOwn
namespace Go.Proofs.Ytnkkieiofpplgaa
open Go.RowKit
attribute [local go_sem] Oper.semAt_some

/-- byte j of a print's words -/
def pb (ws : List Nat) (j : Nat) : UInt8 := UInt8.ofNat (ws.getD (j / 8) 0 / 256 ^ (j % 8))
def pby (ws : List Nat) : List UInt8 := (List.range 64).map (pb ws)
/-- an array of 64 bytes of which the first m are laid -/
def parr (ws : List Nat) (m : Nat) : List UInt8 := (List.range 64).map fun j => if j < m then pb ws j else 0
theorem parr_len (ws : List Nat) (m : Nat) : (parr ws m).length = 64 := by simp [parr]
theorem parr_all (ws : List Nat) : parr ws 64 = pby ws := by
  unfold parr pby
  refine List.map_congr_left fun j hj => ?_
  rw [List.mem_range] at hj
  rw [if_pos hj]
theorem parr_set (ws : List Nat) {m : Nat} (hm : m < 64) : ((bcells (parr ws m)).toArray).setIfInBounds m (.int .u8 ((pb ws m).toNat : Int)) = (bcells (parr ws (m + 1))).toArray := by
  apply Array.toList_inj.1
  rw [Array.toList_setIfInBounds]
  apply List.ext_getElem
  · simp [bcells, parr]
  · intro i h1 h2
    have hi : i < 64 := by simpa [bcells, parr] using h2
    rw [List.getElem_set]
    by_cases he : i = m
    · subst he
      simp [bcells, parr]
    · rw [if_neg (fun e => he e.symm)]
      simp only [bcells, parr, List.getElem_map, List.getElem_range, List.map_map]
      by_cases h3 : i < m
      · simp [h3, show i < m + 1 by omega]
      · simp [h3, show ¬ i < m + 1 by omega]
/-- the row that a print would be of -/
def pkeyL (L : Nat) (ws : List Nat) : List UInt8 := (pby ws).take L
theorem pkeyL_len (L : Nat) (ws : List Nat) : (pkeyL L ws).length = min L 64 := by simp [pkeyL, pby]
def pgood (L : Nat) (ws : List Nat) : Bool := mayB (min L 64) && ((min L 64 == L) && (pws (pkeyL L ws) == ws))

def RetKey (w : World) (L : Nat) (ws : List Nat) (e : Ending) (w' : World) : Prop := ∃ v, e = .returned (.tuple #[v, .bool (pgood L ws)]) ∧ (pgood L ws = false → v = .slice none 0 0) ∧ (pgood L ws = true → w'.ownsRow w.heap.size 5 1 v (min L 64) (bcells (pkeyL L ws))) ∧ Below w.heap.size w w'
theorem own_none_ne (v : Value) : v.ownBlock = none ∨ v.ownBlock ≠ none := by
  cases v.ownBlock <;> simp
theorem results_tmp2 {P : Program} {fn : Func} {tmps : Array Value} {w : World} {u v : Tmp} (h : fn.results = #[.tmp u, .tmp v]) : (results fn tmps).run P w = .ok (.tuple #[tmps.getD u undef, tmps.getD v undef]) w := by
  simp [results, h]
theorem run_index_agg {P : Program} {w : World} {t e : TypeId} {n : Nat} {cs : Array Value} {i : Nat} {v : Value} {ti : TypeInfo} (h : P.underlying t = some (.array n e)) (hp : P.plainKey e = true) (hi : P.info? e = some ti) (hc : P.cellsOf e = 1) (hin : i < n) (hv : cs[i]? = some v) :
    (Instr.index t (.agg cs) (.int .i64 (i : Int))).run P w = .ok v w := by
  have e2 := run_part_plain (P := P) w hp (xs := cs) (off := i) hv
  have e3 := run_sizeOf (P := P) w hi
  rw [hc] at e3
  simp only [Instr.index, asIntOf, Sem.run_bind, Sem.run_pure, Result.andThen_ok, run_underlying h]
  rw [if_pos ⟨by omega, by omega⟩]
  simp only [Sem.run_bind, e3, Result.andThen_ok, Nat.mul_one, Int.toNat_natCast, e2]
theorem pb_num (ws : List Nat) {k j : Nat} (hj : j < 8) : ((pb ws (8 * k + j)).toNat : Int) = (ws.getD k 0 : Int) / 2 ^ (8 * j) % 256 := by
  unfold pb
  rw [show (8 * k + j) / 8 = k by omega, show (8 * k + j) % 8 = j by omega, UInt8.toNat_ofNat', show (256 : Nat) = 2 ^ 8 from rfl, ← Nat.pow_mul, Int.natCast_emod, Int.natCast_ediv, Int.natCast_pow]
  rfl
theorem parr_get (ws : List Nat) {m : Nat} (hm : m < 64) : (bcells (parr ws m)).toArray[m]? = some (.int .u8 0) := by
  rw [List.getElem?_toArray]
  simp [bcells, parr, hm]
set_option maxRecDepth 100000 in
set_option maxHeartbeats 2000000 in
theorem pkey_any (L : Nat) (ws : List Nat) (hL : L < 256) (h8 : ws.length = 8) (hw : ∀ x ∈ ws, x < 18446744073709551616) (w : World) :
    Calls Try.prog 33 #[.agg (pcA L ws)] w (RetKey w L ws) := by
  obtain ⟨A, hA⟩ : ∃ A, A = pcA L ws := ⟨_, rfl⟩
  rw [← hA]
  have hsA : A.size = 9 := by rw [hA]; simp [pcA, h8]
  have HA := Lib.hid hA
  clear hA
  go_enter Try.func33, Try.ntmps33
  go_wp2
  have hag : ∀ i, (h : i < 8) → A[1 + i]? = some (.int .u64 (ws.getD i 0 : Int)) := fun i hi => by
    rw [HA.out]
    unfold pcA
    rw [List.getElem?_toArray, Nat.add_comm, List.getElem?_cons_succ, List.getElem?_map]
    simp [List.getD, show i < ws.length by omega]
  generalize hB : (#[A[1], A[2], A[3], A[4], A[5], A[6], A[7], A[8]] : Array Value) = B
  have hBc : ∀ i, i < 8 → B[i]? = some (.int .u64 (ws.getD i 0 : Int)) := fun i hi => by
    rw [← hag i hi, ← hB]
    have : i = 0 ∨ i = 1 ∨ i = 2 ∨ i = 3 ∨ i = 4 ∨ i = 5 ∨ i = 6 ∨ i = 7 := by omega
    rcases this with rfl | rfl | rfl | rfl | rfl | rfl | rfl | rfl <;> simp [hsA]
  clear hB hag
  have hIx : ∀ (W : World) (i : Nat), i < 8 → (Instr.index 78 (.agg B) (.int .i64 (i : Int))).run Try.prog W = .ok (.int .u64 (ws.getD i 0 : Int)) W := fun W i hi =>
    run_index_agg (e := 35) (ti := (Try.prog.info? 35).get!) Try.underlying78 (by kernel_rfl) (by kernel_rfl) (by kernel_rfl) hi (hBc i hi)
  have HIX := Lib.hid hIx
  clear hIx hBc
  have q1 := Blk.new w 80 A
  have b1 := (Below.refl w.heap.size w).alloc (Nat.le_refl _) (.cells A 80)
  have z1 : (w.alloc (.cells A 80)).heap.size = w.heap.size + 1 := by simp
  generalize w.alloc (.cells A 80) = w1 at *
  generalize hZ : (#[Value.int IntKind.u8 0, Value.int IntKind.u8 0, Value.int IntKind.u8 0, Value.int IntKind.u8 0, Value.int IntKind.u8 0, Value.int IntKind.u8 0, Value.int IntKind.u8 0, Value.int IntKind.u8 0, Value.int IntKind.u8 0, Value.int IntKind.u8 0, Value.int IntKind.u8 0, Value.int IntKind.u8 0, Value.int IntKind.u8 0, Value.int IntKind.u8 0, Value.int IntKind.u8 0, Value.int IntKind.u8 0, Value.int IntKind.u8 0, Value.int IntKind.u8 0, Value.int IntKind.u8 0, Value.int IntKind.u8 0, Value.int IntKind.u8 0, Value.int IntKind.u8 0, Value.int IntKind.u8 0, Value.int IntKind.u8 0, Value.int IntKind.u8 0, Value.int IntKind.u8 0, Value.int IntKind.u8 0, Value.int IntKind.u8 0, Value.int IntKind.u8 0, Value.int IntKind.u8 0, Value.int IntKind.u8 0, Value.int IntKind.u8 0, Value.int IntKind.u8 0, Value.int IntKind.u8 0, Value.int IntKind.u8 0, Value.int IntKind.u8 0, Value.int IntKind.u8 0, Value.int IntKind.u8 0, Value.int IntKind.u8 0, Value.int IntKind.u8 0, Value.int IntKind.u8 0, Value.int IntKind.u8 0, Value.int IntKind.u8 0, Value.int IntKind.u8 0, Value.int IntKind.u8 0, Value.int IntKind.u8 0, Value.int IntKind.u8 0, Value.int IntKind.u8 0, Value.int IntKind.u8 0, Value.int IntKind.u8 0, Value.int IntKind.u8 0, Value.int IntKind.u8 0, Value.int IntKind.u8 0, Value.int IntKind.u8 0, Value.int IntKind.u8 0, Value.int IntKind.u8 0, Value.int IntKind.u8 0, Value.int IntKind.u8 0, Value.int IntKind.u8 0, Value.int IntKind.u8 0, Value.int IntKind.u8 0, Value.int IntKind.u8 0, Value.int IntKind.u8 0, Value.int IntKind.u8 0] : Array Value) = Z
  have hZ : Z = (bcells (parr ws 0)).toArray := by rw [← hZ]; unfold parr; rfl
  have q2 := Blk.newAt w1 94 Z z1.symm
  have q1 := q1.alloc (.cells Z 94)
  have b2 := b1.alloc (by omega) (.cells Z 94)
  generalize w1.alloc (.cells Z 94) = w2 at *
  rw [hZ] at q2
  clear b1 z1 hZ
  obtain ⟨g1, e1⟩ : ∃ g, g = w.heap.size := ⟨_, rfl⟩
  obtain ⟨g2, e2⟩ : ∃ g, g = w.heap.size + 1 := ⟨_, rfl⟩
  rw [← e1] at q1
  rw [← e2] at q2
  rw [← e2, ← e1]
  have H1 := Lib.hid e1
  have H2 := Lib.hid e2
  clear e1 e2
  have Q1 := Lib.hid q1
  have Q2 := Lib.hid q2
  have B2 := Lib.hid b2
  clear q1 q2 b2
  go_loopw [11] (fun i wr => ∃ k : Nat, k ≤ 8 ∧ i = .int .i64 (k : Int) ∧ Blk wr g1 80 A ∧ Blk wr g2 94 (bcells (parr ws (8 * k))).toArray ∧ Below w.heap.size w wr) (fun i _ => 8 - (intOf i).toNat)
  case atStart => exact ⟨0, by omega, rfl, Q1.out, Q2.out, B2.out⟩
  case round =>
    obtain ⟨k, hk, rfl, q1, q2, hb⟩ := hrel
    have Q1 := Lib.hid q1
    have Q2 := Lib.hid q2
    have HB := Lib.hid hb
    clear q1 q2 hb
    by_cases hlt : k < 8
    · have hc := fun W => HIX.out W k hlt
      have hwk : ws.getD k 0 < 18446744073709551616 := by
        rw [List.getD, List.getElem?_eq_getElem (by omega)]
        exact hw _ (List.getElem_mem _)
      generalize hx : ws.getD k 0 = x at *
      have HX := Lib.hid hx
      clear hx
      go_wp2
      go_loopw [15] (fun i wz => ∃ j : Nat, j ≤ 8 ∧ i = .int .i64 (j : Int) ∧ Blk wz g1 80 A ∧ Blk wz g2 94 (bcells (parr ws (8 * k + j))).toArray ∧ Below w.heap.size w wz) (fun i _ => 8 - (intOf i).toNat)
      case atStart => exact ⟨0, by omega, rfl, Q1.out, Q2.out, HB.out⟩
      case round =>
        obtain ⟨j, hj, rfl, q1, q2, hb⟩ := hrel
        have Q1 := Lib.hid q1
        have HB := Lib.hid hb
        by_cases hjt : j < 8
        · have hm : 8 * k + j < 64 := by omega
          have hc2 := (q2.cell (8 * k + j)).trans (parr_get ws hm)
          have hf2 := q2.frozen (8 * k + j)
          have Q2 := Lib.hid q2
          have e1 : (k : Int) * 8 + (j : Int) = ((8 * k + j : Nat) : Int) := by omega
          clear q1 q2 hb
          go_wp2
          go_roundw
          case rel =>
            refine ⟨j + 1, by omega, by go_num, Q1.out.far (p := ⟨g2, 8 * k + j, none⟩) (by show g1 ≠ g2; rw [H1.out, H2.out]; omega) _, ?_, HB.out.setCell (p := ⟨g2, 8 * k + j, none⟩) (by show w.heap.size ≤ g2; rw [H2.out]; omega) _⟩
            have h9 := Q2.out.set_ (8 * k + j) (.int .u8 ((pb ws (8 * k + j)).toNat : Int))
            rw [parr_set ws hm, pb_num ws hjt, HX.out] at h9
            exact h9
          case measure => simp [intOf]; omega
        · obtain rfl : j = 8 := by omega
          have Q2 := Lib.hid q2
          clear q1 q2 hb
          go_wp2
          go_roundw
          case rel => exact ⟨k + 1, by omega, by go_num, Q1.out, by rw [show 8 * (k + 1) = 8 * k + 8 by omega]; exact Q2.out, HB.out⟩
          case measure => simp [intOf]; omega
    · obtain rfl : k = 8 := by omega
      have q2 := Q2.out
      rw [show 8 * 8 = 64 from rfl, parr_all] at q2
      have Q2 := Lib.hid q2
      have q1 := Q1.out
      have q1 : Blk wr g1 80 (pcA L ws) := by rw [← HA.out]; exact q1
      have c0 : wr.cell? ⟨g1, 0, none⟩ = some (.int .u8 (L : Int)) := (q1.cell 0).trans (by unfold pcA; rfl)
      have f0 := q1.frozen 0
      have Q1 := Lib.hid q1
      clear q1 q2
      obtain ⟨m, hm⟩ : ∃ m, m = min L 64 := ⟨_, rfl⟩
      have hmin : min (L : Int) 64 = (m : Int) := by omega
      have hm2 : m ≤ 64 := by omega
      have HM := Lib.hid hm
      clear hm
      have hSl : ∀ (W : World), (Instr.sliceAt 94 (.pointer (some ⟨g2, 0, none⟩)) none (some (.int .i64 (m : Int))) none).run Try.prog W = .ok (.slice (some ⟨g2, 0, none⟩) m 64) W := fun W => by
        have e : Try.prog.arrayLen 94 = 64 := by kernel_rfl
        have e2 : (sizeOf (Try.prog.elem 94)).run Try.prog W = .ok 1 W := run_sizeOf W (i := (Try.prog.info? 5).get!) (by kernel_rfl)
        rw [run_sliceAt_array_h W 94 ⟨g2, 0, none⟩ (by kernel_rfl) .i64 _ (by omega) (by rw [e]; omega), e, e2]
        simp [slicedAt, Addr.add]
      have rB : Rd wr wr.heap.size 1 (some ⟨g2, 0, none⟩) m (bcells (pkeyL L ws)) := by
        refine ⟨by rw [bcells_len, pkeyL_len, HM.out, Nat.mul_one], by unfold maxLen; omega, fun _ => ⟨g2, 0, rfl, Q2.out.lt, fun j u hu => ?_⟩⟩
        rw [Nat.zero_add, Q2.out.cell j, List.getElem?_toArray]
        rw [pkeyL, bcells, List.map_take, List.getElem?_take] at hu
        split at hu
        · exact hu
        · cases hu
      have HC := Lib.hid (clone_any (pkeyL L ws) (some ⟨g2, 0, none⟩) m 64 wr rB (by omega))
      go_wp2_with fail
      refine HC.out.mono ?_
      rintro e w4 ⟨v, rfl, hown, hb4⟩
      obtain ⟨A4, c4, rfl, hc4⟩ := own_cap hown
      have hcur : Below w4.heap.size w4 w4.drew := ⟨rfl, rfl, rfl, Nat.le_refl _, fun _ _ => rfl⟩
      have q1 := Q1.out.after hb4
      have HBW := Lib.hid (belowGo HB.out hb4)
      have HOWN := Lib.hid hown
      have HQ := Lib.hid q1
      have r4 : Rd w4 w4.heap.size 1 A4 m (bcells (pkeyL L ws)) := Rd.of_own hown
      have HM1 := fun W => Lib.hid (mayK_any A4 m c4 W (by omega))
      have hlk : (pkeyL L ws).length = m := by rw [pkeyL_len, HM.out]
      clear hown hb4 q1 HC rB hSl c0 f0 hmin
      go_wp2_with fail
      by_cases hmay : mayB m = true
      · have HO := fun W (h : Below w4.heap.size w4 W) => Lib.hid (of_any (pkeyL L ws) A4 m c4 W hc4 (by omega) ((r4.below h (Nat.le_refl _)).more h.size))
        rw [prC_pc _ (by rw [hlk]; exact hmay), hlk] at HO
        refine wp_region_plan (fun W => Below w4.heap.size w4 W) [.calms [0], .act 1, .calms [2, 3, 4], .read 6, .act 5, .read 7, .calms [8]] (by kernel_rfl) (by rfl) (by kernel_rfl) (by kernel_rfl) hcur ?_
        refine plan_calms (by simp [calmRow, need]; rfl) ?_
        generalize w4.drew = w5 at *
        go_wp2_with fail
        refine plan_act (by rfl) ?_
        go_wp2_with fail
        refine (HM1 _).out.mono ?_
        rintro e w6 ⟨rfl, rfl⟩
        rw [hmay]
        go_wp2_with fail
        refine ⟨hcur, ?_⟩
        refine plan_calms (by simp [calmRow, need]; rfl) ?_
        go_wp2_with fail
        refine plan_read (by rfl) (.agg (pcA L ws)) (by rfl) (fun W hW => exec_load_blk rfl rfl (HQ.out.after hW) Try.underlying80 rfl (by rw [show (pcA L ws).size = 9 by simp [pcA, h8]]; kernel_rfl)) ?_
        refine plan_act (by rfl) ?_
        go_wp2_with fail
        refine (HO _ hcur).out.mono ?_
        rintro e w7 ⟨rfl, b7⟩
        have hcur := belowGo hcur b7
        go_wp2_with fail
        refine ⟨hcur, ?_⟩
        refine plan_read (by rfl) (.bool !((m == L) && (pws (pkeyL L ws) == ws))) (by rfl) (fun W hW => exec_bin rfl (run_neq_agg (by kernel_rfl) (run_print_eq m L (pws (pkeyL L ws)) ws (pws_len _) h8 W))) ?_
        have hpg : pgood L ws = ((m == L) && (pws (pkeyL L ws) == ws)) := by unfold pgood; rw [← HM.out, hmay]; rfl
        have HPG := Lib.hid hpg
        clear hpg
        generalize ((m == L) && (pws (pkeyL L ws) == ws)) = G at *
        refine plan_calms (by simp [calmRow, need]; rfl) ?_
        go_wp2_with fail
        refine plan_end ?_
        have hbw := belowGo HBW.out hcur
        have hown := HOWN.out
        cases G
        · go_wp2_with fail
          refine bodyPost_ret (results_tmp2 rfl) rfl ⟨_, by rw [HPG.out]; rfl, fun _ => rfl, (by rw [HPG.out]; intro h; cases h), hbw⟩
        · go_wp2_with fail
          refine bodyPost_ret (results_tmp2 rfl) rfl ⟨_, by rw [HPG.out]; rfl, (by rw [HPG.out]; intro h; cases h), fun _ => ?_, hbw⟩
          rw [← HM.out]
          exact own_low (World.ownsRow.kept hown ⟨hcur.os, hcur.tape, hcur.output, hcur.size, fun k hk _ => hcur.block k hk⟩ (own_none_ne _)) HB.out.size
      · have hmay : mayB m = false := by simpa using hmay
        refine wp_region_plan (fun W => Below w4.heap.size w4 W) [.calms [0], .act 1, .calms [2, 3, 4], .read 6, .act 5, .read 7, .calms [8]] (by kernel_rfl) (by rfl) (by kernel_rfl) (by kernel_rfl) hcur ?_
        refine plan_calms (by simp [calmRow, need]; rfl) ?_
        generalize w4.drew = w5 at *
        go_wp2_with fail
        refine plan_act (by rfl) ?_
        go_wp2_with fail
        refine (HM1 _).out.mono ?_
        rintro e w6 ⟨rfl, rfl⟩
        rw [hmay]
        go_wp2_with fail
        refine ⟨hcur, ?_⟩
        refine plan_calms (by simp [calmRow, need]; rfl) ?_
        go_wp2_with fail
        refine plan_skip (by rfl) (by rfl) ?_
        refine plan_act (by rfl) ?_
        go_wp2_with fail
        refine ⟨hcur, ?_⟩
        refine plan_skip (by rfl) (by rfl) ?_
        refine plan_calms (by simp [calmRow, need]; rfl) ?_
        have hpg : pgood L ws = false := by unfold pgood; rw [← HM.out, hmay]; rfl
        have hbw := belowGo HBW.out hcur
        go_wp2_with fail
        refine plan_end ?_
        go_wp2_with fail
        refine bodyPost_ret (results_tmp2 rfl) rfl ⟨_, by rw [hpg]; rfl, fun _ => rfl, (by rw [hpg]; intro h; cases h), hbw⟩
  trace_state
  skip
end Go.Proofs.Ytnkkieiofpplgaa
