/- Package edit: the reader's edit, kind 6. -/
import Derived.Test.YtedjolkkidciiaaEd4
import Derived.Deep.CutRange
namespace Go.Proofs.Ytedjolkkidciiaa
open Go.RowKit
attribute [local go_sem] Oper.semAt_some

set_option maxRecDepth 100000 in
set_option maxHeartbeats 4000000 in
theorem edit_k6 (c : UInt8) (hc : c.toNat = 6) (l1 : List UInt8) (B r : Nat) (w : World) (h : Stands w B r (c :: l1)) (hB : B ≤ r) :
    Calls Try.prog 26 #[.pointer (some ⟨r, 0, none⟩)] w (RetEd w r (rdEd (c :: l1))) := by
  have hrl := h.lt
  have hrd := rd6 hc l1
  have k0 := (Kept.refl r w).alloc (.cells #[.int .i64 0, .string ⟨#[]⟩, .int .u64 0, .int .u32 0, .slice none 0 0] 28)
  have s0 := h.alloc hB (.cells #[.int .i64 0, .string ⟨#[]⟩, .int .u64 0, .int .u32 0, .slice none 0 0] 28)
  have q2 := Blk.new w 28 #[.int .i64 0, .string ⟨#[]⟩, .int .u64 0, .int .u32 0, .slice none 0 0]
  have hidx : ∀ W, (Instr.index 9 (.string ⟨([c] : List UInt8).toArray⟩) (.int .i64 0)).run Try.prog W = .ok (.int .u8 6) W := fun W => by
    have := run_index_string (P := Try.prog) (w := W) 9 ⟨([c] : List UInt8).toArray⟩ .i64 0 Try.underlying9
    rw [this]
    show Result.ok (Value.int .u8 (c.toNat : Int)) W = _
    rw [hc]; rfl
  have HIX := Lib.hid hidx
  have HRD := Lib.hid hrd
  clear hidx hrd
  go_enter Try.func26, Try.ntmps26
  go_upto_region 1 with (fail)
  generalize w.alloc (.cells #[.int .i64 0, .string ⟨#[]⟩, .int .u64 0, .int .u32 0, .slice none 0 0] 28) = w0 at *
  have N := Lib.hid (text_any 1 (c :: l1) B r w0 s0 hB)
  rw [show rdText 1 (c :: l1) = .ok ([c], l1) by unfold rdText; rw [if_neg (by simp)]; rfl] at N
  obtain ⟨g2, e2⟩ : ∃ g, g = w.heap.size := ⟨_, rfl⟩
  rw [← e2] at q2 ⊢
  have hr2 : r < g2 := by omega
  have hw2 : w.heap.size ≤ g2 := by omega
  have E2 := Lib.hid e2
  clear e2 h
  go_wp2_with fail
  refine N.out.mono ?_
  rintro e w1 ⟨rfl, s1, g1⟩
  have k1 := k0.go g1
  have q2 := q2.grown g1 (by simp; omega)
  have hidx := HIX.out w1
  have h23 : g2 < w1.heap.size := q2.lt
  clear N k0 s0 g1 HIX
  have k2 := k1.alloc (.cells #[.int .i64 6, .string ⟨#[]⟩, .int .u64 0, .int .u32 0, .slice none 0 0] 28)
  have s2 := s1.alloc hB (.cells #[.int .i64 6, .string ⟨#[]⟩, .int .u64 0, .int .u32 0, .slice none 0 0] 28)
  have q2 := q2.alloc (.cells #[.int .i64 6, .string ⟨#[]⟩, .int .u64 0, .int .u32 0, .slice none 0 0] 28)
  have q3 := Blk.new w1 28 #[.int .i64 6, .string ⟨#[]⟩, .int .u64 0, .int .u32 0, .slice none 0 0]
  have P := Lib.hid (show Calls Try.prog 29 #[.int .i64 6] (w1.alloc (.cells #[.int .i64 6, .string ⟨#[]⟩, .int .u64 0, .int .u32 0, .slice none 0 0] 28)) fun e w' => e = .returned (.tuple #[.agg #[.bool true, .bool false, .bool false, .bool true], .bool true]) ∧ Below (w1.alloc (.cells #[.int .i64 6, .string ⟨#[]⟩, .int .u64 0, .int .u32 0, .slice none 0 0] 28)).heap.size (w1.alloc (.cells #[.int .i64 6, .string ⟨#[]⟩, .int .u64 0, .int .u32 0, .slice none 0 0] 28)) w' from parts_any 6 _)
  go_wp2_with fail
  have hg3 : w.heap.size ≤ w1.heap.size := k1.2.2.2.1
  generalize w1.alloc (.cells #[.int .i64 6, .string ⟨#[]⟩, .int .u64 0, .int .u32 0, .slice none 0 0] 28) = w2 at *
  obtain ⟨g3, e3⟩ : ∃ g, g = w1.heap.size := ⟨_, rfl⟩
  rw [← e3] at q3 hg3 h23 ⊢
  have E3 := Lib.hid e3
  clear e3 k1 s1 hidx
  refine P.out.mono ?_
  rintro e w3 ⟨rfl, b3⟩
  have k3 := k2.below (b3.mono k2.2.2.2.1)
  have s3 := s2.below b3 hB s2.lt
  have q2 := q2.after b3
  have q3 := q3.after b3
  have k4 := k3.alloc (.cells #[.bool true, .bool false, .bool false, .bool true] 67)
  have s4 := s3.alloc hB (.cells #[.bool true, .bool false, .bool false, .bool true] 67)
  have q2 := q2.alloc (.cells #[.bool true, .bool false, .bool false, .bool true] 67)
  have q3l := q3.lt
  have q3 := q3.alloc (.cells #[.bool true, .bool false, .bool false, .bool true] 67)
  have qh := Blk.new w3 67 #[.bool true, .bool false, .bool false, .bool true]
  have QH := Lib.hid qh
  have Q3 := Lib.hid q3
  have hgh : w.heap.size ≤ w3.heap.size := k3.2.2.2.1
  clear P k2 s2 k3 s3 b3 q3 qh
  go_wp2_with (first
    | (refine wpList_value rfl (exec_load (p := ⟨w3.heap.size, 0, none⟩) rfl rfl (by kernel_rfl) (QH.out.cell 0)) ?_)
    | (refine wpList_value rfl (exec_load (p := ⟨w3.heap.size, 1, none⟩) rfl rfl (by kernel_rfl) (QH.out.cell 1)) ?_)
    | (refine wpList_value rfl (exec_load (p := ⟨w3.heap.size, 2, none⟩) rfl rfl (by kernel_rfl) (QH.out.cell 2)) ?_)
    | (refine wpList_value rfl (exec_load (p := ⟨g3, 0, none⟩) rfl rfl (by kernel_rfl) (Q3.out.cell 0)) ?_)
    | (refine wpList_value rfl (exec_load (p := ⟨g3, 4, none⟩) rfl rfl (by kernel_rfl) (Q3.out.cell 4)) ?_)
    | fail)
  generalize w3.alloc (.cells #[.bool true, .bool false, .bool false, .bool true] 67) = w4 at *
  obtain ⟨gh, eh⟩ : ∃ g, g = w3.heap.size := ⟨_, rfl⟩
  rw [← eh] at hgh q3l
  have QH : Hid (Blk w4 gh 67 #[.bool true, .bool false, .bool false, .bool true]) := by rw [eh]; exact QH
  rw [← eh]
  have h2h : g2 < gh := by omega
  clear eh
  have N := Lib.hid (number_any 0 1099511627776 l1 B r w4 s4 hB)
  refine N.out.mono ?_
  intro e w5 h5
  clear N
  cases e4 : rdNum 0 1099511627776 l1 with
  | error z =>
    rw [e4] at h5
    obtain ⟨rfl, g5⟩ := h5
    have hx : rdEd (c :: l1) = .error z := by rw [HRD.out]; simp only [e4, bind_err]
    exact ⟨rfl, by rw [hx]; exact ⟨rfl, kept_grown.1 (k4.go g5)⟩⟩
  | ok p =>
    obtain ⟨seq, l4⟩ := p
    rw [e4] at h5
    obtain ⟨rfl, s5, g5⟩ := h5
    have k5 := k4.go g5
    have q2 := q2.grown g5 (by simp; omega)
    have Q3 := Lib.hid (Q3.out.grown g5 (by simp; omega))
    have QH := Lib.hid (QH.out.grown g5 (by simp; omega))
    obtain ⟨-, -, a4, c4, -, -, -, -⟩ := rdNum_ok e4
    have X4 := Lib.hid e4
    clear e4 g5 k4 s4
    have i1 : (seq : Int) ≤ 1099511627776 := by omega
    have cj : w5.cell? ⟨g3, 2, none⟩ = some (.int .u64 0) := Q3.out.cell 2
    have fj := Q3.out.frozen 2
    have q3 := Q3.out.set_ 2 (.int .u64 (seq : Int))
    have q3 : Blk (w5.setCell ⟨g3, 2, none⟩ (.int .u64 (seq : Int))) g3 28 #[.int .i64 6, .string ⟨#[]⟩, .int .u64 (seq : Int), .int .u32 0, .slice none 0 0] := q3
    have q2 := q2.far (p := ⟨g3, 2, none⟩) (by simp; omega) (.int .u64 (seq : Int))
    have qh := QH.out.far (p := ⟨g3, 2, none⟩) (by simp; omega) (.int .u64 (seq : Int))
    have k6 := k5.set (p := ⟨g3, 2, none⟩) hg3 (.int .u64 (seq : Int))
    have s6 := s5.set (p := ⟨g3, 2, none⟩) hB (by show r < g3; omega) (.int .u64 (seq : Int))
    have Q3 := Lib.hid q3
    have QH := Lib.hid qh
    clear q3 qh k5 s5
    go_wp2_with (first
      | (refine wpList_value rfl (exec_load (p := ⟨gh, 0, none⟩) rfl rfl (by kernel_rfl) (QH.out.cell 0)) ?_)
      | (refine wpList_value rfl (exec_load (p := ⟨gh, 1, none⟩) rfl rfl (by kernel_rfl) (QH.out.cell 1)) ?_)
      | (refine wpList_value rfl (exec_load (p := ⟨gh, 2, none⟩) rfl rfl (by kernel_rfl) (QH.out.cell 2)) ?_)
      | (refine wpList_value rfl (exec_load (p := ⟨g3, 0, none⟩) rfl rfl (by kernel_rfl) (Q3.out.cell 0)) ?_)
      | (refine wpList_value rfl (exec_load (p := ⟨g3, 4, none⟩) rfl rfl (by kernel_rfl) (Q3.out.cell 4)) ?_)
      | fail)
    clear cj fj
    generalize w5.setCell ⟨g3, 2, none⟩ (.int .u64 (seq : Int)) = w6 at *
    have N := Lib.hid (number_any 0 200 l4 B r w6 s6 hB)
    refine N.out.mono ?_
    intro e w7 h7
    clear N
    cases e6 : rdNum 0 200 l4 with
    | error z =>
      rw [e6] at h7
      obtain ⟨rfl, g7⟩ := h7
      have hx : rdEd (c :: l1) = .error z := by rw [HRD.out]; simp only [X4.out, e6, bind_ok, bind_err]
      exact ⟨rfl, by rw [hx]; exact ⟨rfl, kept_grown.1 (k6.go g7)⟩⟩
    | ok p =>
      obtain ⟨many, l6⟩ := p
      rw [e6] at h7
      obtain ⟨rfl, s7, g7⟩ := h7
      have k7 := k6.go g7
      have q2 := q2.grown g7 (by simp; omega)
      have Q3 := Lib.hid (Q3.out.grown g7 (by simp; omega))
      have QH := Lib.hid (QH.out.grown g7 (by simp; omega))
      obtain ⟨-, -, a6, c6, -, -, -, -⟩ := rdNum_ok e6
      have X6 := Lib.hid e6
      clear e6 g7 k6 s6
      have i2 : (many : Int) ≤ 200 := by omega
      go_wp2_with (first
        | (refine wpList_value rfl (exec_load (p := ⟨gh, 0, none⟩) rfl rfl (by kernel_rfl) (QH.out.cell 0)) ?_)
        | (refine wpList_value rfl (exec_load (p := ⟨gh, 1, none⟩) rfl rfl (by kernel_rfl) (QH.out.cell 1)) ?_)
        | (refine wpList_value rfl (exec_load (p := ⟨gh, 2, none⟩) rfl rfl (by kernel_rfl) (QH.out.cell 2)) ?_)
        | (refine wpList_value rfl (exec_load (p := ⟨g3, 0, none⟩) rfl rfl (by kernel_rfl) (Q3.out.cell 0)) ?_)
        | (refine wpList_value rfl (exec_load (p := ⟨g3, 4, none⟩) rfl rfl (by kernel_rfl) (Q3.out.cell 4)) ?_)
        | fail)
      have hm200 : many ≤ 200 := by omega
      have Q3a := Q3
      go_loopw [7, 50] (fun a i wr => ∃ (j idn : Nat) (d : List Sl) (lr : List UInt8) (v : Value), j ≤ many ∧ i = .int .u64 (j : Int) ∧ a = .int .u64 (idn : Int) ∧ idn ≤ 16777216 ∧ d.length = j ∧ rdSls many 1 l6 = prep d (rdSls (many - j) idn lr) ∧ Kept r w wr ∧ Stands wr B r lr ∧ Blk wr g2 28 #[.int .i64 0, .string ⟨#[]⟩, .int .u64 0, .int .u32 0, .slice none 0 0] ∧ Blk wr g3 28 #[.int .i64 6, .string ⟨#[]⟩, .int .u64 (seq : Int), .int .u32 0, v] ∧ Ow wr w.heap.size 40 5 v j (slCells d)) (fun _ i _ => many - (intOf i).toNat)
      case atStart => exact ⟨0, 1, [], l6, .slice none 0 0, Nat.zero_le _, rfl, rfl, by omega, rfl, (prep_nil _).symm, k7, s7, q2, Q3.out, World.ownsRow_nil _ _ _ _⟩
      case round =>
        obtain ⟨j, idn, d, lr, v, hj, rfl, rfl, hid, hdl, hrs, kr, sr, q2, q3, own⟩ := hrel
        obtain ⟨Av, cv, rfl, hcv⟩ := own_cap own
        by_cases hlt : j < many
        · have N := Lib.hid (seal_any idn lr B r wr sr hB)
          have Q3 := Lib.hid q3
          have OWN := Lib.hid own
          have HRS := Lib.hid hrs
          have HDL := Lib.hid hdl
          have hji : (j : Int) < (many : Int) := by omega
          clear q3 own hrs hdl
          go_wp2_with fail
          refine N.out.mono ?_
          intro e wa ha
          clear N
          obtain ⟨mj, hmj⟩ : ∃ m, many - j = m + 1 := ⟨many - j - 1, by omega⟩
          cases ea : rdSl idn lr with
          | error z =>
            rw [ea] at ha
            obtain ⟨rfl, ga⟩ := ha
            have hq : rdSls many 1 l6 = .error z := by rw [HRS.out, hmj]; exact prep_err d mj idn lr ea
            have hx : rdEd (c :: l1) = .error z := by rw [HRD.out]; simp only [X4.out, X6.out, hq, bind_ok, bind_err]
            exact ⟨rfl, by rw [hx]; exact ⟨rfl, kept_grown.1 (kr.go ga)⟩⟩
          | ok p =>
            obtain ⟨s, l9⟩ := p
            rw [ea] at ha
            obtain ⟨rfl, sa, ga⟩ := ha
            have hsid := rdSl_ok ea
            have hst : rdSls many 1 l6 = prep (d ++ [s]) (rdSls mj (s.id + 1) l9) := by rw [HRS.out, hmj]; exact prep_step d mj idn lr ea
            have HST := Lib.hid hst
            have ka := kr.go ga
            have q2 := q2.grown ga (by simp; omega)
            have q3 := Q3.out.grown ga (by simp; omega)
            have own := Ow.grown OWN.out ga (fun g hg => by injection hg with hg; subst hg; exact hrl)
            clear hst ga kr sr Q3 OWN HRS ea
            obtain ⟨i0, i1, i2, i3, i4⟩ := s
            dsimp only at hsid
            rw [show (fun s : Sl => Value.agg s.cells.toArray) (Sl.mk i0 i1 i2 i3 i4) = .agg #[.int .u32 (i0 : Int), .int .u32 (i1 : Int), .int .u32 (i2 : Int), .int .u64 (i3 : Int), .int .u64 (i4 : Int)] from rfl]
            have hlt0 := own_blk_lt own
            have kb := ka.alloc (.cells #[.int .u32 (i0 : Int), .int .u32 (i1 : Int), .int .u32 (i2 : Int), .int .u64 (i3 : Int), .int .u64 (i4 : Int)] 40)
            have sb := sa.alloc hB (.cells #[.int .u32 (i0 : Int), .int .u32 (i1 : Int), .int .u32 (i2 : Int), .int .u64 (i3 : Int), .int .u64 (i4 : Int)] 40)
            have q2 := q2.alloc (.cells #[.int .u32 (i0 : Int), .int .u32 (i1 : Int), .int .u32 (i2 : Int), .int .u64 (i3 : Int), .int .u64 (i4 : Int)] 40)
            have q3 := q3.alloc (.cells #[.int .u32 (i0 : Int), .int .u32 (i1 : Int), .int .u32 (i2 : Int), .int .u64 (i3 : Int), .int .u64 (i4 : Int)] 40)
            have own := Ow.alloc own (.cells #[.int .u32 (i0 : Int), .int .u32 (i1 : Int), .int .u32 (i2 : Int), .int .u64 (i3 : Int), .int .u64 (i4 : Int)] 40)
            have q8 := Blk.new wa 40 #[.int .u32 (i0 : Int), .int .u32 (i1 : Int), .int .u32 (i2 : Int), .int .u64 (i3 : Int), .int .u64 (i4 : Int)]
            have hwa : w.heap.size ≤ wa.heap.size := ka.2.2.2.1
            have hwb : w.heap.size ≤ (wa.alloc (.cells #[.int .u32 (i0 : Int), .int .u32 (i1 : Int), .int .u32 (i2 : Int), .int .u64 (i3 : Int), .int .u64 (i4 : Int)] 40)).heap.size := kb.2.2.2.1
            have Q3 := Lib.hid q3
            have Q8 := Lib.hid q8
            have OWN := Lib.hid own
            have LT0 := Lib.hid hlt0
            clear q3 q8 own hlt0 ka sa
            have i5 : (i0 : Int) ≤ 16777215 := by omega
            go_upto_region 21 with (fail)
            generalize wa.alloc (.cells #[.int .u32 (i0 : Int), .int .u32 (i1 : Int), .int .u32 (i2 : Int), .int .u64 (i3 : Int), .int .u64 (i4 : Int)] 40) = wb at *
            obtain ⟨g8, e8⟩ : ∃ g, g = wa.heap.size := ⟨_, rfl⟩
            rw [← e8] at Q8 LT0 hwa ⊢
            clear e8
            go_wp2_with (first
              | (refine wpList_value rfl (exec_load (p := ⟨g3, 4, none⟩) rfl rfl (by kernel_rfl) (Q3.out.cell 4)) ?_)
              | (refine wpList_value rfl (exec_load_blk rfl rfl Q8.out Try.underlying40 rfl (by kernel_rfl)) ?_)
              | (at_builtin; refine wpList_push eltSeal rfl (.tmp 56) (.tmp 58) rfl (W := wb) rfl OWN.out rfl rfl (by simp [Value.oneCell']) (by omega) (by unfold maxLen; omega) (w0 := wb) (Below.refl _ _) hwb ?_; intro v2 w2b o2 b2 x2 y2; obtain ⟨A2, c2, rfl, hc2⟩ := own_cap o2; have q3 : Blk w2b g3 28 #[.int .i64 6, .string ⟨#[]⟩, .int .u64 (seq : Int), .int .u32 0, .slice Av j cv] := Q3.out.grownT OWN.out (by decide) x2; have q8 : Blk w2b g8 40 #[.int .u32 (i0 : Int), .int .u32 (i1 : Int), .int .u32 (i2 : Int), .int .u64 (i3 : Int), .int .u64 (i4 : Int)] := Q8.out.grown x2 (fun e => by have := LT0.out _ e.symm; omega); have q2 : Blk w2b g2 28 _ := q2.grownT OWN.out (by decide) x2; have c34 := q3.cell 4; have f34 := q3.frozen 4; have c34 : w2b.cell? ⟨g3, 4, none⟩ = some (.slice Av j cv) := c34; have c80 : w2b.cell? ⟨g8, 0, none⟩ = some (.int .u32 (i0 : Int)) := q8.cell 0; have kb2 := kb.below b2; have sb2 := sb.below b2 hB hrl; have O2 : Hid (Ow w2b w.heap.size 40 5 (.slice A2 (j + 1) c2) (j + 1) (slCells d ++ (Sl.mk i0 i1 i2 i3 i4).cells)) := Lib.hid o2; have Q3n := Lib.hid q3; clear q3 q8 o2 b2 x2 y2)
              | fail)
            go_roundw
            case rel =>
              have q3 : Blk (w2b.setCell ⟨g3, 4, none⟩ (.slice A2 (j + 1) c2)) g3 28 #[.int .i64 6, .string ⟨#[]⟩, .int .u64 (seq : Int), .int .u32 0, .slice A2 (j + 1) c2] := Q3n.out.set_ 4 (.slice A2 (j + 1) c2)
              exact ⟨j + 1, i0 + 1, d ++ [⟨i0, i1, i2, i3, i4⟩], l9, .slice A2 (j + 1) c2, by omega, by go_num, by go_num, by omega, by simp [HDL.out], by rw [show many - (j + 1) = mj by omega]; exact HST.out, kb2.set (p := ⟨g3, 4, none⟩) hg3 _, sb2.set (p := ⟨g3, 4, none⟩) hB (by show r < g3; omega) _, q2.far (p := ⟨g3, 4, none⟩) (by simp; omega) _, q3, by rw [slCells_snoc]; exact O2.out.setT Q3n.out (by decide) 4 _⟩
            case measure => simp [intOf]; omega
        · obtain rfl : j = many := by omega
          have hji : ¬ (j : Int) < (j : Int) := by omega
          rw [Nat.sub_self, rdSls_zero] at hrs
          have hq : rdSls j 1 l6 = .ok (d, lr) := by rw [hrs]; unfold prep; rw [bind_ok, List.append_nil]
          have HQ := Lib.hid hq
          have OWN2 := Lib.hid own
          have Q3 := Lib.hid q3
          clear hrs hq q3
          obtain ⟨A, nl, cl, qr, hr, hnc⟩ := sr
          have hlen := hr.1
          rw [bcells_len, Nat.mul_one] at hlen
          have cr : wr.cell? ⟨r, 0, none⟩ = some (.slice A nl cl) := qr.cell 0
          by_cases hnl : nl = 0
          · subst hnl
            have hx : rdEd (c :: l1) = .ok ⟨6, [], seq, 0, d⟩ := by rw [HRD.out]; simp only [X4.out, X6.out, HQ.out, bind_ok]; unfold rdFin; rw [if_neg (by omega)]
            have HX := Lib.hid hx
            have qres := q2.row #[.int .i64 6, .string ⟨#[]⟩, .int .u64 (seq : Int), .int .u32 0, .slice Av j cv]
            have kres := kr.row hw2 #[.int .i64 6, .string ⟨#[]⟩, .int .u64 (seq : Int), .int .u32 0, .slice Av j cv]
            have QR := Lib.hid qres
            have KR := Lib.hid kres
            have Q2 := Lib.hid q2
            clear hx qres kres q2 hr qr
            go_wp2_with (first
              | (refine wpList_value rfl (exec_load_blk rfl rfl Q3.out Try.underlying28 rfl (by kernel_rfl)) ?_)
              | (refine wpList_storeB rfl 28 (.tmp 2) (.tmp 73) rfl rfl rfl Q2.out (by kernel_rfl) (by rfl) (by simp [Value.oneCell']) ?_)
              | fail)
            refine bodyPost_ret (results_cell1 rfl rfl (res_load QR.out Try.underlying28 rfl (by kernel_rfl))) rfl ?_
            rw [HX.out]
            exact ⟨⟨.slice Av j cv, rfl, by rw [show (Ed.mk 6 [] seq 0 d).seals.length = j from hdl]; exact World.ownsRow.kept OWN2.out ⟨rfl, rfl, rfl, by simp [World.setRow], fun k _ hk => row_other (by simpa using hk) _⟩ (Or.inr (own_blk_ne Q2.out OWN2.out (by decide)).symm)⟩, kept_grown.1 KR.out⟩
          · have hx : rdEd (c :: l1) = .error 5 := by rw [HRD.out]; simp only [X4.out, X6.out, HQ.out, bind_ok]; unfold rdFin; rw [if_pos (by omega)]
            have HX := Lib.hid hx
            have KK := Lib.hid kr
            have hni : 0 < (nl : Int) := by omega
            clear hx hr
            go_wp2_with fail
            exact ⟨rfl, by rw [HX.out]; exact ⟨rfl, kept_grown.1 KK.out⟩⟩
end Go.Proofs.Ytedjolkkidciiaa
