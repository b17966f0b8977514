/- Package edit: the reader's edit, kind 2. -/
import Derived.Test.YtedjolkkidciiaaEd4
import Derived.Deep.CutRange
namespace Go.Proofs.Ytedjolkkidciiaa
open Go.RowKit
attribute [local go_sem] Oper.semAt_some

set_option maxRecDepth 100000 in
set_option maxHeartbeats 4000000 in
theorem edit_k2 (c : UInt8) (hc : c.toNat = 2) (l1 : List UInt8) (B r : Nat) (w : World) (h : Stands w B r (c :: l1)) (hB : B ≤ r) :
    Calls Try.prog 26 #[.pointer (some ⟨r, 0, none⟩)] w (RetEd w r (rdEd (c :: l1))) := by
  have hrl := h.lt
  have hrd := rd2 hc l1
  have k0 := (Kept.refl r w).alloc (.cells #[.int .i64 0, .string ⟨#[]⟩, .int .u64 0, .int .u32 0, .slice none 0 0] 28)
  have s0 := h.alloc hB (.cells #[.int .i64 0, .string ⟨#[]⟩, .int .u64 0, .int .u32 0, .slice none 0 0] 28)
  have q2 := Blk.new w 28 #[.int .i64 0, .string ⟨#[]⟩, .int .u64 0, .int .u32 0, .slice none 0 0]
  have hidx : ∀ W, (Instr.index 9 (.string ⟨([c] : List UInt8).toArray⟩) (.int .i64 0)).run Try.prog W = .ok (.int .u8 2) W := fun W => by
    have := run_index_string (P := Try.prog) (w := W) 9 ⟨([c] : List UInt8).toArray⟩ .i64 0 Try.underlying9
    rw [this]
    show Result.ok (Value.int .u8 (c.toNat : Int)) W = _
    rw [hc]; rfl
  have HIX := Lib.hid hidx
  have HRD := Lib.hid hrd
  clear hidx hrd
  go_enter Try.func26, Try.ntmps26
  go_upto_region 1 with (fail)
  generalize w.alloc (.cells #[.int .i64 0, .string ⟨#[]⟩, .int .u64 0, .int .u32 0, .slice none 0 0] 28) = w0 at *
  have N := Lib.hid (text_any 1 (c :: l1) B r w0 s0 hB)
  rw [show rdText 1 (c :: l1) = .ok ([c], l1) by unfold rdText; rw [if_neg (by simp)]; rfl] at N
  obtain ⟨g2, e2⟩ : ∃ g, g = w.heap.size := ⟨_, rfl⟩
  rw [← e2] at q2 ⊢
  have hr2 : r < g2 := by omega
  have hw2 : w.heap.size ≤ g2 := by omega
  have E2 := Lib.hid e2
  clear e2 h
  go_wp2_with fail
  refine N.out.mono ?_
  rintro e w1 ⟨rfl, s1, g1⟩
  have k1 := k0.go g1
  have q2 := q2.grown g1 (by simp; omega)
  have hidx := HIX.out w1
  have h23 : g2 < w1.heap.size := q2.lt
  clear N k0 s0 g1 HIX
  have k2 := k1.alloc (.cells #[.int .i64 2, .string ⟨#[]⟩, .int .u64 0, .int .u32 0, .slice none 0 0] 28)
  have s2 := s1.alloc hB (.cells #[.int .i64 2, .string ⟨#[]⟩, .int .u64 0, .int .u32 0, .slice none 0 0] 28)
  have q2 := q2.alloc (.cells #[.int .i64 2, .string ⟨#[]⟩, .int .u64 0, .int .u32 0, .slice none 0 0] 28)
  have q3 := Blk.new w1 28 #[.int .i64 2, .string ⟨#[]⟩, .int .u64 0, .int .u32 0, .slice none 0 0]
  have P := Lib.hid (show Calls Try.prog 29 #[.int .i64 2] (w1.alloc (.cells #[.int .i64 2, .string ⟨#[]⟩, .int .u64 0, .int .u32 0, .slice none 0 0] 28)) fun e w' => e = .returned (.tuple #[.agg #[.bool true, .bool true, .bool false, .bool false], .bool true]) ∧ Below (w1.alloc (.cells #[.int .i64 2, .string ⟨#[]⟩, .int .u64 0, .int .u32 0, .slice none 0 0] 28)).heap.size (w1.alloc (.cells #[.int .i64 2, .string ⟨#[]⟩, .int .u64 0, .int .u32 0, .slice none 0 0] 28)) w' from parts_any 2 _)
  go_wp2_with fail
  have hg3 : w.heap.size ≤ w1.heap.size := k1.2.2.2.1
  generalize w1.alloc (.cells #[.int .i64 2, .string ⟨#[]⟩, .int .u64 0, .int .u32 0, .slice none 0 0] 28) = w2 at *
  obtain ⟨g3, e3⟩ : ∃ g, g = w1.heap.size := ⟨_, rfl⟩
  rw [← e3] at q3 hg3 h23 ⊢
  have E3 := Lib.hid e3
  clear e3 k1 s1 hidx
  refine P.out.mono ?_
  rintro e w3 ⟨rfl, b3⟩
  have k3 := k2.below (b3.mono k2.2.2.2.1)
  have s3 := s2.below b3 hB s2.lt
  have q2 := q2.after b3
  have q3 := q3.after b3
  have k4 := k3.alloc (.cells #[.bool true, .bool true, .bool false, .bool false] 67)
  have s4 := s3.alloc hB (.cells #[.bool true, .bool true, .bool false, .bool false] 67)
  have q2 := q2.alloc (.cells #[.bool true, .bool true, .bool false, .bool false] 67)
  have q3l := q3.lt
  have q3 := q3.alloc (.cells #[.bool true, .bool true, .bool false, .bool false] 67)
  have qh := Blk.new w3 67 #[.bool true, .bool true, .bool false, .bool false]
  have QH := Lib.hid qh
  have Q3 := Lib.hid q3
  have hgh : w.heap.size ≤ w3.heap.size := k3.2.2.2.1
  clear P k2 s2 k3 s3 b3 q3 qh
  go_wp2_with (first
    | (refine wpList_value rfl (exec_load (p := ⟨w3.heap.size, 0, none⟩) rfl rfl (by kernel_rfl) (QH.out.cell 0)) ?_)
    | (refine wpList_value rfl (exec_load (p := ⟨w3.heap.size, 1, none⟩) rfl rfl (by kernel_rfl) (QH.out.cell 1)) ?_)
    | (refine wpList_value rfl (exec_load (p := ⟨w3.heap.size, 2, none⟩) rfl rfl (by kernel_rfl) (QH.out.cell 2)) ?_)
    | (refine wpList_value rfl (exec_load (p := ⟨g3, 0, none⟩) rfl rfl (by kernel_rfl) (Q3.out.cell 0)) ?_)
    | (refine wpList_value rfl (exec_load (p := ⟨g3, 4, none⟩) rfl rfl (by kernel_rfl) (Q3.out.cell 4)) ?_)
    | fail)
  generalize w3.alloc (.cells #[.bool true, .bool true, .bool false, .bool false] 67) = w4 at *
  obtain ⟨gh, eh⟩ : ∃ g, g = w3.heap.size := ⟨_, rfl⟩
  rw [← eh] at hgh q3l
  have QH : Hid (Blk w4 gh 67 #[.bool true, .bool true, .bool false, .bool false]) := by rw [eh]; exact QH
  rw [← eh]
  have h2h : g2 < gh := by omega
  clear eh
  have N := Lib.hid (number_any 0 1099511627776 l1 B r w4 s4 hB)
  refine N.out.mono ?_
  intro e w5 h5
  clear N
  cases e4 : rdNum 0 1099511627776 l1 with
  | error z =>
    rw [e4] at h5
    obtain ⟨rfl, g5⟩ := h5
    have hx : rdEd (c :: l1) = .error z := by rw [HRD.out]; simp only [e4, bind_err]
    exact ⟨rfl, by rw [hx]; exact ⟨rfl, kept_grown.1 (k4.go g5)⟩⟩
  | ok p =>
    obtain ⟨seq, l4⟩ := p
    rw [e4] at h5
    obtain ⟨rfl, s5, g5⟩ := h5
    have k5 := k4.go g5
    have q2 := q2.grown g5 (by simp; omega)
    have Q3 := Lib.hid (Q3.out.grown g5 (by simp; omega))
    have QH := Lib.hid (QH.out.grown g5 (by simp; omega))
    obtain ⟨-, -, a4, c4, -, -, -, -⟩ := rdNum_ok e4
    have X4 := Lib.hid e4
    clear e4 g5 k4 s4
    have i1 : (seq : Int) ≤ 1099511627776 := by omega
    have cj : w5.cell? ⟨g3, 2, none⟩ = some (.int .u64 0) := Q3.out.cell 2
    have fj := Q3.out.frozen 2
    have q3 := Q3.out.set_ 2 (.int .u64 (seq : Int))
    have q3 : Blk (w5.setCell ⟨g3, 2, none⟩ (.int .u64 (seq : Int))) g3 28 #[.int .i64 2, .string ⟨#[]⟩, .int .u64 (seq : Int), .int .u32 0, .slice none 0 0] := q3
    have q2 := q2.far (p := ⟨g3, 2, none⟩) (by simp; omega) (.int .u64 (seq : Int))
    have qh := QH.out.far (p := ⟨g3, 2, none⟩) (by simp; omega) (.int .u64 (seq : Int))
    have k6 := k5.set (p := ⟨g3, 2, none⟩) hg3 (.int .u64 (seq : Int))
    have s6 := s5.set (p := ⟨g3, 2, none⟩) hB (by show r < g3; omega) (.int .u64 (seq : Int))
    have Q3 := Lib.hid q3
    have QH := Lib.hid qh
    clear q3 qh k5 s5
    go_wp2_with (first
      | (refine wpList_value rfl (exec_load (p := ⟨gh, 0, none⟩) rfl rfl (by kernel_rfl) (QH.out.cell 0)) ?_)
      | (refine wpList_value rfl (exec_load (p := ⟨gh, 1, none⟩) rfl rfl (by kernel_rfl) (QH.out.cell 1)) ?_)
      | (refine wpList_value rfl (exec_load (p := ⟨gh, 2, none⟩) rfl rfl (by kernel_rfl) (QH.out.cell 2)) ?_)
      | (refine wpList_value rfl (exec_load (p := ⟨g3, 0, none⟩) rfl rfl (by kernel_rfl) (Q3.out.cell 0)) ?_)
      | (refine wpList_value rfl (exec_load (p := ⟨g3, 4, none⟩) rfl rfl (by kernel_rfl) (Q3.out.cell 4)) ?_)
      | fail)
    clear cj fj
    generalize w5.setCell ⟨g3, 2, none⟩ (.int .u64 (seq : Int)) = w6 at *
    have N := Lib.hid (number_any 1 32 l4 B r w6 s6 hB)
    refine N.out.mono ?_
    intro e w7 h7
    clear N
    cases e6 : rdNum 1 32 l4 with
    | error z =>
      rw [e6] at h7
      obtain ⟨rfl, g7⟩ := h7
      have hx : rdEd (c :: l1) = .error z := by rw [HRD.out]; simp only [X4.out, e6, bind_ok, bind_err]
      exact ⟨rfl, by rw [hx]; exact ⟨rfl, kept_grown.1 (k6.go g7)⟩⟩
    | ok p =>
      obtain ⟨nn, l6⟩ := p
      rw [e6] at h7
      obtain ⟨rfl, s7, g7⟩ := h7
      have k7 := k6.go g7
      have q2 := q2.grown g7 (by simp; omega)
      have Q3 := Lib.hid (Q3.out.grown g7 (by simp; omega))
      have QH := Lib.hid (QH.out.grown g7 (by simp; omega))
      obtain ⟨-, -, a6, c6, -, -, -, -⟩ := rdNum_ok e6
      have X6 := Lib.hid e6
      clear e6 g7 k6 s6
      go_wp2_with fail
      have N := Lib.hid (text_any nn l6 B r w7 s7 hB)
      refine N.out.mono ?_
      intro e w8 h8
      clear N
      cases e7 : rdText nn l6 with
      | error z =>
        rw [e7] at h8
        obtain ⟨rfl, g8⟩ := h8
        have hx : rdEd (c :: l1) = .error z := by rw [HRD.out]; simp only [X4.out, X6.out, e7, bind_ok, bind_err]
        exact ⟨rfl, by rw [hx]; exact ⟨rfl, kept_grown.1 (k7.go g8)⟩⟩
      | ok p =>
        obtain ⟨nm, l7⟩ := p
        rw [e7] at h8
        obtain ⟨rfl, s8, g8⟩ := h8
        have k8 := k7.go g8
        have q2 := q2.grown g8 (by simp; omega)
        have Q3 := Lib.hid (Q3.out.grown g8 (by simp; omega))
        have QH := Lib.hid (QH.out.grown g8 (by simp; omega))
        have X7 := Lib.hid e7
        clear e7 g8 k7 s7
        have cj : w8.cell? ⟨g3, 1, none⟩ = some (.string ⟨#[]⟩) := Q3.out.cell 1
        have fj := Q3.out.frozen 1
        have q3 := Q3.out.set_ 1 (.string ⟨nm.toArray⟩)
        have q3 : Blk (w8.setCell ⟨g3, 1, none⟩ (.string ⟨nm.toArray⟩)) g3 28 #[.int .i64 2, .string ⟨nm.toArray⟩, .int .u64 (seq : Int), .int .u32 0, .slice none 0 0] := q3
        have q2 := q2.far (p := ⟨g3, 1, none⟩) (by simp; omega) (.string ⟨nm.toArray⟩)
        have qh := QH.out.far (p := ⟨g3, 1, none⟩) (by simp; omega) (.string ⟨nm.toArray⟩)
        have k9 := k8.set (p := ⟨g3, 1, none⟩) hg3 (.string ⟨nm.toArray⟩)
        have s9 := s8.set (p := ⟨g3, 1, none⟩) hB (by show r < g3; omega) (.string ⟨nm.toArray⟩)
        have Q3 := Lib.hid q3
        have QH := Lib.hid qh
        clear q3 qh k8 s8
        go_wp2_with (first
          | (refine wpList_value rfl (exec_load (p := ⟨gh, 0, none⟩) rfl rfl (by kernel_rfl) (QH.out.cell 0)) ?_)
          | (refine wpList_value rfl (exec_load (p := ⟨gh, 1, none⟩) rfl rfl (by kernel_rfl) (QH.out.cell 1)) ?_)
          | (refine wpList_value rfl (exec_load (p := ⟨gh, 2, none⟩) rfl rfl (by kernel_rfl) (QH.out.cell 2)) ?_)
          | (refine wpList_value rfl (exec_load (p := ⟨g3, 0, none⟩) rfl rfl (by kernel_rfl) (Q3.out.cell 0)) ?_)
          | (refine wpList_value rfl (exec_load (p := ⟨g3, 4, none⟩) rfl rfl (by kernel_rfl) (Q3.out.cell 4)) ?_)
          | fail)
        clear cj fj
        generalize w8.setCell ⟨g3, 1, none⟩ (.string ⟨nm.toArray⟩) = w9 at *
        go_loopw [7, 50] (fun a i wr => i = .int .u64 0 ∧ wr = w9) (fun _ _ _ => 0)
        case atStart => exact ⟨rfl, rfl⟩
        case round =>
          obtain ⟨rfl, rfl⟩ := hrel
          obtain ⟨A, nl, cl, qr, hr, hnc⟩ := s9
          have hlen := hr.1
          rw [bcells_len, Nat.mul_one] at hlen
          have cr : wr.cell? ⟨r, 0, none⟩ = some (.slice A nl cl) := qr.cell 0
          by_cases hnl : nl = 0
          · subst hnl
            have hx : rdEd (c :: l1) = .ok ⟨2, nm, seq, 0, []⟩ := by rw [HRD.out]; simp only [X4.out, X6.out, X7.out, bind_ok]; unfold rdFin; rw [if_neg (by omega)]
            have HX := Lib.hid hx
            have qres := q2.row #[.int .i64 2, .string ⟨nm.toArray⟩, .int .u64 (seq : Int), .int .u32 0, .slice none 0 0]
            have kres := k9.row hw2 #[.int .i64 2, .string ⟨nm.toArray⟩, .int .u64 (seq : Int), .int .u32 0, .slice none 0 0]
            have QR := Lib.hid qres
            have KR := Lib.hid kres
            have Q2 := Lib.hid q2
            clear hx qres kres q2 hr qr
            go_wp2_with (first
              | (refine wpList_value rfl (exec_load_blk rfl rfl Q3.out Try.underlying28 rfl (by kernel_rfl)) ?_)
              | (refine wpList_storeB rfl 28 (.tmp 2) (.tmp 73) rfl rfl rfl Q2.out (by kernel_rfl) (by rfl) (by simp [Value.oneCell']) ?_)
              | fail)
            refine bodyPost_ret (results_cell1 rfl rfl (res_load QR.out Try.underlying28 rfl (by kernel_rfl))) rfl ?_
            rw [HX.out]
            exact ⟨⟨.slice none 0 0, rfl, World.ownsRow_nil _ _ _ _⟩, kept_grown.1 KR.out⟩
          · have hx : rdEd (c :: l1) = .error 5 := by rw [HRD.out]; simp only [X4.out, X6.out, X7.out, bind_ok]; unfold rdFin; rw [if_pos (by omega)]
            have HX := Lib.hid hx
            have KK := Lib.hid k9
            have hni : 0 < (nl : Int) := by omega
            clear hx hr
            go_wp2_with fail
            exact ⟨rfl, by rw [HX.out]; exact ⟨rfl, kept_grown.1 KK.out⟩⟩
end Go.Proofs.Ytedjolkkidciiaa
