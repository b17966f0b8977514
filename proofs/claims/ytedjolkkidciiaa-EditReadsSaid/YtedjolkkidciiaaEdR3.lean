/- The document's edits: May. For every edit. -/
import Derived.Test.YtedjolkkidciiaaEd8a
import Derived.Test.YtedjolkkidciiaaEdR1
namespace Go.Proofs.Ytedjolkkidciiaa
open Go.RowKit
attribute [local go_sem] Oper.semAt_some

theorem mayEd_ref (k : Int) (nm : List UInt8) (seq id : Nat) (sl : List Sl) (hs hn hi hl : Bool) (n : Nat) (h1 : hs = hasSeq k) (h2 : hn = hasName k) (h3 : hi = hasId k) (h4 : hl = hasSeals k) (h5 : sl.length = n) (hk : isKind k = true) :
    mayEd ⟨k, nm, seq, id, sl⟩ = (!(decide (1099511627776 < seq) || (!hs && decide (0 < seq))) && !((hn && (decide (nm.length < 1) || decide (32 < nm.length))) || (!hn && decide (0 < nm.length))) && !((hi && (decide (id < 1) || decide (16777215 < id))) || (!hi && decide (0 < id))) && !((!hl && decide (0 < n)) || (decide (k = 5) && !decide (n = 1)) || decide (200 < n)) && maySls 0 sl) := by
  subst h1; subst h2; subst h3; subst h4; subst h5
  unfold mayEd
  dsimp only
  rw [hk]
  generalize hasSeq k = hs
  generalize hasName k = hn
  generalize hasId k = hi
  generalize hasSeals k = hl
  generalize maySls 0 sl = b
  generalize nm.length = a
  generalize sl.length = n
  have hk5 : (k == 5) = decide (k = 5) := rfl
  rw [hk5]
  generalize decide (k = 5) = d
  cases hs <;> cases hn <;> cases hi <;> cases hl <;> cases d <;> cases b <;> rw [Bool.eq_iff_iff] <;> simp <;> omega

set_option maxRecDepth 100000 in
set_option maxHeartbeats 8000000 in
theorem rmayE_any (k : Int) (nm : List UInt8) (S : ByteArray) (hS : S = ⟨nm.toArray⟩) (seq id : Nat) (sl : List Sl) (A : Option Addr) (n c : Nat) (w : World) (hn : sl.length = n) (hseq : seq < 18446744073709551616) (hid : id < 4294967296) (hnm : nm.length ≤ 1000000000000) (hsl : ∀ s ∈ sl, s.fits)
    (hr : Rd w w.heap.size 5 A n (slCells sl)) (hnc : n ≤ c) :
    Calls Try.prog 20 #[.agg #[.int .i64 k, .string S, .int .u64 (seq : Int), .int .u32 (id : Int), .slice A n c]] w fun e w' => e = .returned (.bool (mayEd ⟨k, nm, seq, id, sl⟩)) ∧ Below w.heap.size w w' := by
  have hSz : S.size = nm.length := by rw [hS]; simp [ByteArray.size]
  clear hS
  have hmx := hr.2.1
  unfold maxLen at hmx
  have q1 := Blk.new w 32 #[.int .i64 k, .string S, .int .u64 (seq : Int), .int .u32 (id : Int), .slice A n c]
  have hb := (Below.refl w.heap.size w).alloc (Nat.le_refl _) (.cells #[.int .i64 k, .string S, .int .u64 (seq : Int), .int .u32 (id : Int), .slice A n c] 32)
  obtain ⟨L, hL⟩ : ∃ L, L = nm.length := ⟨_, rfl⟩
  have PA := Lib.hid (rparts_any k (w.alloc (.cells #[.int .i64 k, .string S, .int .u64 (seq : Int), .int .u32 (id : Int), .slice A n c] 32)))
  unfold partsV at PA
  cases hk : isKind k with
  | false =>
    have EE := Lib.hid (show mayEd ⟨k, nm, seq, id, sl⟩ = false by unfold mayEd; rw [hk]; rfl)
    have HB := Lib.hid hb
    by_cases k1 : k < 1
    · clear hk PA hb q1
      go_enter Try.func20, Try.ntmps20
      go_wp2_with fail
      exact bodyPost_ret (results_tmp rfl _ _ _) rfl ⟨by rw [EE.out]; rfl, HB.out⟩
    · have k2 : 6 < k := by unfold isKind at hk; simp at hk; omega
      clear hk PA hb q1
      go_enter Try.func20, Try.ntmps20
      go_wp2_with fail
      exact bodyPost_ret (results_tmp rfl _ _ _) rfl ⟨by rw [EE.out]; rfl, HB.out⟩
  | true =>
    have k1 : ¬ k < 1 := by unfold isKind at hk; simp at hk; omega
    have k2 : ¬ 6 < k := by unfold isKind at hk; simp at hk; omega
    obtain ⟨hs, h1⟩ : ∃ h, h = hasSeq k := ⟨_, rfl⟩
    obtain ⟨hq, h2⟩ : ∃ h, h = hasName k := ⟨_, rfl⟩
    obtain ⟨hi, h3⟩ : ∃ h, h = hasId k := ⟨_, rfl⟩
    obtain ⟨hl, h4⟩ : ∃ h, h = hasSeals k := ⟨_, rfl⟩
    have ME := Lib.hid (mayEd_ref k nm seq id sl hs hq hi hl n h1 h2 h3 h4 hn hk)
    rw [← h1, ← h2, ← h3, ← h4] at PA
    rw [← hL] at ME hSz hnm
    clear h1 h2 h3 h4 hk hL
    have EX := Lib.hid hn
    obtain ⟨r, hrr⟩ : ∃ r, r = mayEd ⟨k, nm, seq, id, sl⟩ := ⟨_, rfl⟩
    rw [← hrr] at ME ⊢
    clear hn hrr nm
    go_enter Try.func20, Try.ntmps20
    go_upto_region 3 with (fail)
    generalize w.alloc (.cells #[.int .i64 k, .string S, .int .u64 (seq : Int), .int .u32 (id : Int), .slice A n c] 32) = w1 at *
    have c0 : w1.cell? ⟨w.heap.size, 0, none⟩ = some (.int .i64 k) := q1.cell 0
    have c1 : w1.cell? ⟨w.heap.size, 1, none⟩ = some (.string S) := q1.cell 1
    have c2 : w1.cell? ⟨w.heap.size, 2, none⟩ = some (.int .u64 (seq : Int)) := q1.cell 2
    have c3 : w1.cell? ⟨w.heap.size, 3, none⟩ = some (.int .u32 (id : Int)) := q1.cell 3
    have c4 : w1.cell? ⟨w.heap.size, 4, none⟩ = some (.slice A n c) := q1.cell 4
    go_wp2_with fail
    refine PA.out.mono ?_
    rintro e w2 ⟨rfl, rfl⟩
    go_upto_region 4 with (fail)
    have Q1 := Lib.hid q1
    have HB := Lib.hid hb
    have HR := Lib.hid ((hr.below hb (Nat.le_refl _)).more hb.size)
    have HSL := Lib.hid hsl
    clear PA q1 hb hr hsl
    have ME : Hid (r = (!(decide (1099511627776 < seq) || (!hs && decide (0 < seq))) && !((hq && (decide (L < 1) || decide (32 < L))) || (!hq && decide (0 < L))) && !((hi && (decide (id < 1) || decide (16777215 < id))) || (!hi && decide (0 < id))) && !((!hl && decide (0 < n)) || (decide (k = 5) && !decide (n = 1)) || decide (200 < n)) && maySls 0 sl)) := ME
    go_cut [35] from 24 to 35 (fun v wx => v = .bool (decide (1099511627776 < seq) || (!hs && decide (0 < seq))) ∧ wx = w1)
    case first =>
      by_cases p0 : 1099511627776 < seq
      · have y0 : 1099511627776 < (seq : Int) := by omega
        cases hs with
        | false =>
          by_cases p2 : 0 < seq
          · have y2 : 0 < (seq : Int) := by omega
            first
              | (exfalso; omega)
              | skip
                go_wp2_with fail
                go_meet
                case rel => exact ⟨by (try rw [decide_eq_true p0]; try rw [decide_eq_true p2]; rfl), rfl⟩
          · have y2 : ¬ 0 < (seq : Int) := by omega
            first
              | (exfalso; omega)
              | skip
                go_wp2_with fail
                go_meet
                case rel => exact ⟨by (try rw [decide_eq_true p0]; try rw [decide_eq_false p2]; rfl), rfl⟩
        | true =>
          by_cases p2 : 0 < seq
          · have y2 : 0 < (seq : Int) := by omega
            first
              | (exfalso; omega)
              | skip
                go_wp2_with fail
                go_meet
                case rel => exact ⟨by (try rw [decide_eq_true p0]; try rw [decide_eq_true p2]; rfl), rfl⟩
          · have y2 : ¬ 0 < (seq : Int) := by omega
            first
              | (exfalso; omega)
              | skip
                go_wp2_with fail
                go_meet
                case rel => exact ⟨by (try rw [decide_eq_true p0]; try rw [decide_eq_false p2]; rfl), rfl⟩
      · have y0 : ¬ 1099511627776 < (seq : Int) := by omega
        cases hs with
        | false =>
          by_cases p2 : 0 < seq
          · have y2 : 0 < (seq : Int) := by omega
            first
              | (exfalso; omega)
              | skip
                go_wp2_with fail
                go_meet
                case rel => exact ⟨by (try rw [decide_eq_false p0]; try rw [decide_eq_true p2]; rfl), rfl⟩
          · have y2 : ¬ 0 < (seq : Int) := by omega
            first
              | (exfalso; omega)
              | skip
                go_wp2_with fail
                go_meet
                case rel => exact ⟨by (try rw [decide_eq_false p0]; try rw [decide_eq_false p2]; rfl), rfl⟩
        | true =>
          by_cases p2 : 0 < seq
          · have y2 : 0 < (seq : Int) := by omega
            first
              | (exfalso; omega)
              | skip
                go_wp2_with fail
                go_meet
                case rel => exact ⟨by (try rw [decide_eq_false p0]; try rw [decide_eq_true p2]; rfl), rfl⟩
          · have y2 : ¬ 0 < (seq : Int) := by omega
            first
              | (exfalso; omega)
              | skip
                go_wp2_with fail
                go_meet
                case rel => exact ⟨by (try rw [decide_eq_false p0]; try rw [decide_eq_false p2]; rfl), rfl⟩
    case rest =>
    obtain ⟨rfl, hw⟩ := hcut
    have hw := hw.symm
    subst hw
    cases hX : (decide (1099511627776 < seq) || (!hs && decide (0 < seq))) with
    | true =>
      have EE := Lib.hid (show r = false by rw [ME.out, hX]; simp)
      clear hX ME
      go_wp2_with fail
      exact bodyPost_ret (results_tmp rfl _ _ _) rfl ⟨by rw [EE.out]; rfl, HB.out⟩
    | false =>
      rw [hX] at ME
      clear hX
      go_upto_region 6 with (fail)
      go_cut [58] from 36 to 58 (fun v wx => v = .bool ((hq && (decide (L < 1) || decide (32 < L))) || (!hq && decide (0 < L))) ∧ wx = w1)
      case first =>
        cases hq with
        | false =>
          by_cases p1 : L < 1
          · have y1 : (L : Int) < 1 := by omega
            by_cases p2 : 32 < L
            · have y2 : 32 < (L : Int) := by omega
              first
                | (exfalso; omega)
                | skip
                  go_wp2_with fail
                  go_meet
                  case rel => exact ⟨by (try rw [decide_eq_true p1]; try rw [decide_eq_true p2]; rfl), rfl⟩
            · have y2 : ¬ 32 < (L : Int) := by omega
              first
                | (exfalso; omega)
                | skip
                  go_wp2_with fail
                  go_meet
                  case rel => exact ⟨by (try rw [decide_eq_true p1]; try rw [decide_eq_false p2]; rfl), rfl⟩
          · have y1 : ¬ (L : Int) < 1 := by omega
            by_cases p2 : 32 < L
            · have y2 : 32 < (L : Int) := by omega
              first
                | (exfalso; omega)
                | skip
                  go_wp2_with fail
                  go_meet
                  case rel => exact ⟨by (try rw [decide_eq_false p1]; try rw [decide_eq_true p2]; rfl), rfl⟩
            · have y2 : ¬ 32 < (L : Int) := by omega
              first
                | (exfalso; omega)
                | skip
                  go_wp2_with fail
                  go_meet
                  case rel => exact ⟨by (try rw [decide_eq_false p1]; try rw [decide_eq_false p2]; rfl), rfl⟩
        | true =>
          by_cases p1 : L < 1
          · have y1 : (L : Int) < 1 := by omega
            by_cases p2 : 32 < L
            · have y2 : 32 < (L : Int) := by omega
              first
                | (exfalso; omega)
                | skip
                  go_wp2_with fail
                  go_meet
                  case rel => exact ⟨by (try rw [decide_eq_true p1]; try rw [decide_eq_true p2]; rfl), rfl⟩
            · have y2 : ¬ 32 < (L : Int) := by omega
              first
                | (exfalso; omega)
                | skip
                  go_wp2_with fail
                  go_meet
                  case rel => exact ⟨by (try rw [decide_eq_true p1]; try rw [decide_eq_false p2]; rfl), rfl⟩
          · have y1 : ¬ (L : Int) < 1 := by omega
            by_cases p2 : 32 < L
            · have y2 : 32 < (L : Int) := by omega
              first
                | (exfalso; omega)
                | skip
                  go_wp2_with fail
                  go_meet
                  case rel => exact ⟨by (try rw [decide_eq_false p1]; try rw [decide_eq_true p2]; rfl), rfl⟩
            · have y2 : ¬ 32 < (L : Int) := by omega
              first
                | (exfalso; omega)
                | skip
                  go_wp2_with fail
                  go_meet
                  case rel => exact ⟨by (try rw [decide_eq_false p1]; try rw [decide_eq_false p2]; rfl), rfl⟩
      case rest =>
      obtain ⟨rfl, hw⟩ := hcut
      have hw := hw.symm
      subst hw
      cases hX : ((hq && (decide (L < 1) || decide (32 < L))) || (!hq && decide (0 < L))) with
      | true =>
        have EE := Lib.hid (show r = false by rw [ME.out, hX]; simp)
        clear hX ME
        go_wp2_with fail
        exact bodyPost_ret (results_tmp rfl _ _ _) rfl ⟨by rw [EE.out]; rfl, HB.out⟩
      | false =>
        rw [hX] at ME
        clear hX
        go_upto_region 8 with (fail)
        go_cut [78] from 59 to 78 (fun v wx => v = .bool ((hi && (decide (id < 1) || decide (16777215 < id))) || (!hi && decide (0 < id))) ∧ wx = w1)
        case first =>
          cases hi with
          | false =>
            by_cases p1 : id < 1
            · have y1 : (id : Int) < 1 := by omega
              by_cases p2 : 16777215 < id
              · have y2 : 16777215 < (id : Int) := by omega
                first
                  | (exfalso; omega)
                  | skip
                    go_wp2_with fail
                    go_meet
                    case rel => exact ⟨by (try rw [decide_eq_true p1]; try rw [decide_eq_true p2]; rfl), rfl⟩
              · have y2 : ¬ 16777215 < (id : Int) := by omega
                first
                  | (exfalso; omega)
                  | skip
                    go_wp2_with fail
                    go_meet
                    case rel => exact ⟨by (try rw [decide_eq_true p1]; try rw [decide_eq_false p2]; rfl), rfl⟩
            · have y1 : ¬ (id : Int) < 1 := by omega
              by_cases p2 : 16777215 < id
              · have y2 : 16777215 < (id : Int) := by omega
                first
                  | (exfalso; omega)
                  | skip
                    go_wp2_with fail
                    go_meet
                    case rel => exact ⟨by (try rw [decide_eq_false p1]; try rw [decide_eq_true p2]; rfl), rfl⟩
              · have y2 : ¬ 16777215 < (id : Int) := by omega
                first
                  | (exfalso; omega)
                  | skip
                    go_wp2_with fail
                    go_meet
                    case rel => exact ⟨by (try rw [decide_eq_false p1]; try rw [decide_eq_false p2]; rfl), rfl⟩
          | true =>
            by_cases p1 : id < 1
            · have y1 : (id : Int) < 1 := by omega
              by_cases p2 : 16777215 < id
              · have y2 : 16777215 < (id : Int) := by omega
                first
                  | (exfalso; omega)
                  | skip
                    go_wp2_with fail
                    go_meet
                    case rel => exact ⟨by (try rw [decide_eq_true p1]; try rw [decide_eq_true p2]; rfl), rfl⟩
              · have y2 : ¬ 16777215 < (id : Int) := by omega
                first
                  | (exfalso; omega)
                  | skip
                    go_wp2_with fail
                    go_meet
                    case rel => exact ⟨by (try rw [decide_eq_true p1]; try rw [decide_eq_false p2]; rfl), rfl⟩
            · have y1 : ¬ (id : Int) < 1 := by omega
              by_cases p2 : 16777215 < id
              · have y2 : 16777215 < (id : Int) := by omega
                first
                  | (exfalso; omega)
                  | skip
                    go_wp2_with fail
                    go_meet
                    case rel => exact ⟨by (try rw [decide_eq_false p1]; try rw [decide_eq_true p2]; rfl), rfl⟩
              · have y2 : ¬ 16777215 < (id : Int) := by omega
                first
                  | (exfalso; omega)
                  | skip
                    go_wp2_with fail
                    go_meet
                    case rel => exact ⟨by (try rw [decide_eq_false p1]; try rw [decide_eq_false p2]; rfl), rfl⟩
        case rest =>
        obtain ⟨rfl, hw⟩ := hcut
        have hw := hw.symm
        subst hw
        cases hX : ((hi && (decide (id < 1) || decide (16777215 < id))) || (!hi && decide (0 < id))) with
        | true =>
          have EE := Lib.hid (show r = false by rw [ME.out, hX]; simp)
          clear hX ME
          go_wp2_with fail
          exact bodyPost_ret (results_tmp rfl _ _ _) rfl ⟨by rw [EE.out]; rfl, HB.out⟩
        | false =>
          rw [hX] at ME
          clear hX
          go_upto_region 10 with (fail)
          go_cut [103] from 79 to 103 (fun v wx => v = .bool ((!hl && decide (0 < n)) || (decide (k = 5) && !decide (n = 1)) || decide (200 < n)) ∧ wx = w1)
          case first =>
            cases hl with
            | false =>
              by_cases p1 : 0 < n
              · have y1 : 0 < (n : Int) := by omega
                by_cases p2 : k = 5
                · have y2 : (k = 5) = True := by simp; omega
                  have z2 : (k == 5) = true := by simp; omega
                  have P2 := Lib.hid p2
                  clear p2
                  by_cases p3 : n = 1
                  · have y3 : ((n : Int) = 1) = True := by simp; omega
                    have z3 : ((n : Int) != 1) = false := by simp; omega
                    have P3 := Lib.hid p3
                    clear p3
                    by_cases p4 : 200 < n
                    · have y4 : 200 < (n : Int) := by omega
                      first
                        | (exfalso; have := P2.out; have := P3.out; omega)
                        | skip
                          go_wp2_with fail
                          go_meet
                          case rel => exact ⟨by (try rw [decide_eq_true p1]; try rw [decide_eq_true P2.out]; try rw [decide_eq_true P3.out]; try rw [decide_eq_true p4]; rfl), rfl⟩
                    · have y4 : ¬ 200 < (n : Int) := by omega
                      first
                        | (exfalso; have := P2.out; have := P3.out; omega)
                        | skip
                          go_wp2_with fail
                          go_meet
                          case rel => exact ⟨by (try rw [decide_eq_true p1]; try rw [decide_eq_true P2.out]; try rw [decide_eq_true P3.out]; try rw [decide_eq_false p4]; rfl), rfl⟩
                  · have y3 : ¬ (n : Int) = 1 := by omega
                    by_cases p4 : 200 < n
                    · have y4 : 200 < (n : Int) := by omega
                      first
                        | (exfalso; have := P2.out; omega)
                        | skip
                          go_wp2_with fail
                          go_meet
                          case rel => exact ⟨by (try rw [decide_eq_true p1]; try rw [decide_eq_true P2.out]; try rw [decide_eq_false p3]; try rw [decide_eq_true p4]; rfl), rfl⟩
                    · have y4 : ¬ 200 < (n : Int) := by omega
                      first
                        | (exfalso; have := P2.out; omega)
                        | skip
                          go_wp2_with fail
                          go_meet
                          case rel => exact ⟨by (try rw [decide_eq_true p1]; try rw [decide_eq_true P2.out]; try rw [decide_eq_false p3]; try rw [decide_eq_false p4]; rfl), rfl⟩
                · have y2 : ¬ k = 5 := by omega
                  by_cases p3 : n = 1
                  · have y3 : ((n : Int) = 1) = True := by simp; omega
                    have z3 : ((n : Int) != 1) = false := by simp; omega
                    have P3 := Lib.hid p3
                    clear p3
                    by_cases p4 : 200 < n
                    · have y4 : 200 < (n : Int) := by omega
                      first
                        | (exfalso; have := P3.out; omega)
                        | skip
                          go_wp2_with fail
                          go_meet
                          case rel => exact ⟨by (try rw [decide_eq_true p1]; try rw [decide_eq_false p2]; try rw [decide_eq_true P3.out]; try rw [decide_eq_true p4]; rfl), rfl⟩
                    · have y4 : ¬ 200 < (n : Int) := by omega
                      first
                        | (exfalso; have := P3.out; omega)
                        | skip
                          go_wp2_with fail
                          go_meet
                          case rel => exact ⟨by (try rw [decide_eq_true p1]; try rw [decide_eq_false p2]; try rw [decide_eq_true P3.out]; try rw [decide_eq_false p4]; rfl), rfl⟩
                  · have y3 : ¬ (n : Int) = 1 := by omega
                    by_cases p4 : 200 < n
                    · have y4 : 200 < (n : Int) := by omega
                      first
                        | (exfalso; omega)
                        | skip
                          go_wp2_with fail
                          go_meet
                          case rel => exact ⟨by (try rw [decide_eq_true p1]; try rw [decide_eq_false p2]; try rw [decide_eq_false p3]; try rw [decide_eq_true p4]; rfl), rfl⟩
                    · have y4 : ¬ 200 < (n : Int) := by omega
                      first
                        | (exfalso; omega)
                        | skip
                          go_wp2_with fail
                          go_meet
                          case rel => exact ⟨by (try rw [decide_eq_true p1]; try rw [decide_eq_false p2]; try rw [decide_eq_false p3]; try rw [decide_eq_false p4]; rfl), rfl⟩
              · have y1 : ¬ 0 < (n : Int) := by omega
                by_cases p2 : k = 5
                · have y2 : (k = 5) = True := by simp; omega
                  have z2 : (k == 5) = true := by simp; omega
                  have P2 := Lib.hid p2
                  clear p2
                  by_cases p3 : n = 1
                  · have y3 : ((n : Int) = 1) = True := by simp; omega
                    have z3 : ((n : Int) != 1) = false := by simp; omega
                    have P3 := Lib.hid p3
                    clear p3
                    by_cases p4 : 200 < n
                    · have y4 : 200 < (n : Int) := by omega
                      first
                        | (exfalso; have := P2.out; have := P3.out; omega)
                        | skip
                          go_wp2_with fail
                          go_meet
                          case rel => exact ⟨by (try rw [decide_eq_false p1]; try rw [decide_eq_true P2.out]; try rw [decide_eq_true P3.out]; try rw [decide_eq_true p4]; rfl), rfl⟩
                    · have y4 : ¬ 200 < (n : Int) := by omega
                      first
                        | (exfalso; have := P2.out; have := P3.out; omega)
                        | skip
                          go_wp2_with fail
                          go_meet
                          case rel => exact ⟨by (try rw [decide_eq_false p1]; try rw [decide_eq_true P2.out]; try rw [decide_eq_true P3.out]; try rw [decide_eq_false p4]; rfl), rfl⟩
                  · have y3 : ¬ (n : Int) = 1 := by omega
                    by_cases p4 : 200 < n
                    · have y4 : 200 < (n : Int) := by omega
                      first
                        | (exfalso; have := P2.out; omega)
                        | skip
                          go_wp2_with fail
                          go_meet
                          case rel => exact ⟨by (try rw [decide_eq_false p1]; try rw [decide_eq_true P2.out]; try rw [decide_eq_false p3]; try rw [decide_eq_true p4]; rfl), rfl⟩
                    · have y4 : ¬ 200 < (n : Int) := by omega
                      first
                        | (exfalso; have := P2.out; omega)
                        | skip
                          go_wp2_with fail
                          go_meet
                          case rel => exact ⟨by (try rw [decide_eq_false p1]; try rw [decide_eq_true P2.out]; try rw [decide_eq_false p3]; try rw [decide_eq_false p4]; rfl), rfl⟩
                · have y2 : ¬ k = 5 := by omega
                  by_cases p3 : n = 1
                  · have y3 : ((n : Int) = 1) = True := by simp; omega
                    have z3 : ((n : Int) != 1) = false := by simp; omega
                    have P3 := Lib.hid p3
                    clear p3
                    by_cases p4 : 200 < n
                    · have y4 : 200 < (n : Int) := by omega
                      first
                        | (exfalso; have := P3.out; omega)
                        | skip
                          go_wp2_with fail
                          go_meet
                          case rel => exact ⟨by (try rw [decide_eq_false p1]; try rw [decide_eq_false p2]; try rw [decide_eq_true P3.out]; try rw [decide_eq_true p4]; rfl), rfl⟩
                    · have y4 : ¬ 200 < (n : Int) := by omega
                      first
                        | (exfalso; have := P3.out; omega)
                        | skip
                          go_wp2_with fail
                          go_meet
                          case rel => exact ⟨by (try rw [decide_eq_false p1]; try rw [decide_eq_false p2]; try rw [decide_eq_true P3.out]; try rw [decide_eq_false p4]; rfl), rfl⟩
                  · have y3 : ¬ (n : Int) = 1 := by omega
                    by_cases p4 : 200 < n
                    · have y4 : 200 < (n : Int) := by omega
                      first
                        | (exfalso; omega)
                        | skip
                          go_wp2_with fail
                          go_meet
                          case rel => exact ⟨by (try rw [decide_eq_false p1]; try rw [decide_eq_false p2]; try rw [decide_eq_false p3]; try rw [decide_eq_true p4]; rfl), rfl⟩
                    · have y4 : ¬ 200 < (n : Int) := by omega
                      first
                        | (exfalso; omega)
                        | skip
                          go_wp2_with fail
                          go_meet
                          case rel => exact ⟨by (try rw [decide_eq_false p1]; try rw [decide_eq_false p2]; try rw [decide_eq_false p3]; try rw [decide_eq_false p4]; rfl), rfl⟩
            | true =>
              by_cases p1 : 0 < n
              · have y1 : 0 < (n : Int) := by omega
                by_cases p2 : k = 5
                · have y2 : (k = 5) = True := by simp; omega
                  have z2 : (k == 5) = true := by simp; omega
                  have P2 := Lib.hid p2
                  clear p2
                  by_cases p3 : n = 1
                  · have y3 : ((n : Int) = 1) = True := by simp; omega
                    have z3 : ((n : Int) != 1) = false := by simp; omega
                    have P3 := Lib.hid p3
                    clear p3
                    by_cases p4 : 200 < n
                    · have y4 : 200 < (n : Int) := by omega
                      first
                        | (exfalso; have := P2.out; have := P3.out; omega)
                        | skip
                          go_wp2_with fail
                          go_meet
                          case rel => exact ⟨by (try rw [decide_eq_true p1]; try rw [decide_eq_true P2.out]; try rw [decide_eq_true P3.out]; try rw [decide_eq_true p4]; rfl), rfl⟩
                    · have y4 : ¬ 200 < (n : Int) := by omega
                      first
                        | (exfalso; have := P2.out; have := P3.out; omega)
                        | skip
                          go_wp2_with fail
                          go_meet
                          case rel => exact ⟨by (try rw [decide_eq_true p1]; try rw [decide_eq_true P2.out]; try rw [decide_eq_true P3.out]; try rw [decide_eq_false p4]; rfl), rfl⟩
                  · have y3 : ¬ (n : Int) = 1 := by omega
                    by_cases p4 : 200 < n
                    · have y4 : 200 < (n : Int) := by omega
                      first
                        | (exfalso; have := P2.out; omega)
                        | skip
                          go_wp2_with fail
                          go_meet
                          case rel => exact ⟨by (try rw [decide_eq_true p1]; try rw [decide_eq_true P2.out]; try rw [decide_eq_false p3]; try rw [decide_eq_true p4]; rfl), rfl⟩
                    · have y4 : ¬ 200 < (n : Int) := by omega
                      first
                        | (exfalso; have := P2.out; omega)
                        | skip
                          go_wp2_with fail
                          go_meet
                          case rel => exact ⟨by (try rw [decide_eq_true p1]; try rw [decide_eq_true P2.out]; try rw [decide_eq_false p3]; try rw [decide_eq_false p4]; rfl), rfl⟩
                · have y2 : ¬ k = 5 := by omega
                  by_cases p3 : n = 1
                  · have y3 : ((n : Int) = 1) = True := by simp; omega
                    have z3 : ((n : Int) != 1) = false := by simp; omega
                    have P3 := Lib.hid p3
                    clear p3
                    by_cases p4 : 200 < n
                    · have y4 : 200 < (n : Int) := by omega
                      first
                        | (exfalso; have := P3.out; omega)
                        | skip
                          go_wp2_with fail
                          go_meet
                          case rel => exact ⟨by (try rw [decide_eq_true p1]; try rw [decide_eq_false p2]; try rw [decide_eq_true P3.out]; try rw [decide_eq_true p4]; rfl), rfl⟩
                    · have y4 : ¬ 200 < (n : Int) := by omega
                      first
                        | (exfalso; have := P3.out; omega)
                        | skip
                          go_wp2_with fail
                          go_meet
                          case rel => exact ⟨by (try rw [decide_eq_true p1]; try rw [decide_eq_false p2]; try rw [decide_eq_true P3.out]; try rw [decide_eq_false p4]; rfl), rfl⟩
                  · have y3 : ¬ (n : Int) = 1 := by omega
                    by_cases p4 : 200 < n
                    · have y4 : 200 < (n : Int) := by omega
                      first
                        | (exfalso; omega)
                        | skip
                          go_wp2_with fail
                          go_meet
                          case rel => exact ⟨by (try rw [decide_eq_true p1]; try rw [decide_eq_false p2]; try rw [decide_eq_false p3]; try rw [decide_eq_true p4]; rfl), rfl⟩
                    · have y4 : ¬ 200 < (n : Int) := by omega
                      first
                        | (exfalso; omega)
                        | skip
                          go_wp2_with fail
                          go_meet
                          case rel => exact ⟨by (try rw [decide_eq_true p1]; try rw [decide_eq_false p2]; try rw [decide_eq_false p3]; try rw [decide_eq_false p4]; rfl), rfl⟩
              · have y1 : ¬ 0 < (n : Int) := by omega
                by_cases p2 : k = 5
                · have y2 : (k = 5) = True := by simp; omega
                  have z2 : (k == 5) = true := by simp; omega
                  have P2 := Lib.hid p2
                  clear p2
                  by_cases p3 : n = 1
                  · have y3 : ((n : Int) = 1) = True := by simp; omega
                    have z3 : ((n : Int) != 1) = false := by simp; omega
                    have P3 := Lib.hid p3
                    clear p3
                    by_cases p4 : 200 < n
                    · have y4 : 200 < (n : Int) := by omega
                      first
                        | (exfalso; have := P2.out; have := P3.out; omega)
                        | skip
                          go_wp2_with fail
                          go_meet
                          case rel => exact ⟨by (try rw [decide_eq_false p1]; try rw [decide_eq_true P2.out]; try rw [decide_eq_true P3.out]; try rw [decide_eq_true p4]; rfl), rfl⟩
                    · have y4 : ¬ 200 < (n : Int) := by omega
                      first
                        | (exfalso; have := P2.out; have := P3.out; omega)
                        | skip
                          go_wp2_with fail
                          go_meet
                          case rel => exact ⟨by (try rw [decide_eq_false p1]; try rw [decide_eq_true P2.out]; try rw [decide_eq_true P3.out]; try rw [decide_eq_false p4]; rfl), rfl⟩
                  · have y3 : ¬ (n : Int) = 1 := by omega
                    by_cases p4 : 200 < n
                    · have y4 : 200 < (n : Int) := by omega
                      first
                        | (exfalso; have := P2.out; omega)
                        | skip
                          go_wp2_with fail
                          go_meet
                          case rel => exact ⟨by (try rw [decide_eq_false p1]; try rw [decide_eq_true P2.out]; try rw [decide_eq_false p3]; try rw [decide_eq_true p4]; rfl), rfl⟩
                    · have y4 : ¬ 200 < (n : Int) := by omega
                      first
                        | (exfalso; have := P2.out; omega)
                        | skip
                          go_wp2_with fail
                          go_meet
                          case rel => exact ⟨by (try rw [decide_eq_false p1]; try rw [decide_eq_true P2.out]; try rw [decide_eq_false p3]; try rw [decide_eq_false p4]; rfl), rfl⟩
                · have y2 : ¬ k = 5 := by omega
                  by_cases p3 : n = 1
                  · have y3 : ((n : Int) = 1) = True := by simp; omega
                    have z3 : ((n : Int) != 1) = false := by simp; omega
                    have P3 := Lib.hid p3
                    clear p3
                    by_cases p4 : 200 < n
                    · have y4 : 200 < (n : Int) := by omega
                      first
                        | (exfalso; have := P3.out; omega)
                        | skip
                          go_wp2_with fail
                          go_meet
                          case rel => exact ⟨by (try rw [decide_eq_false p1]; try rw [decide_eq_false p2]; try rw [decide_eq_true P3.out]; try rw [decide_eq_true p4]; rfl), rfl⟩
                    · have y4 : ¬ 200 < (n : Int) := by omega
                      first
                        | (exfalso; have := P3.out; omega)
                        | skip
                          go_wp2_with fail
                          go_meet
                          case rel => exact ⟨by (try rw [decide_eq_false p1]; try rw [decide_eq_false p2]; try rw [decide_eq_true P3.out]; try rw [decide_eq_false p4]; rfl), rfl⟩
                  · have y3 : ¬ (n : Int) = 1 := by omega
                    by_cases p4 : 200 < n
                    · have y4 : 200 < (n : Int) := by omega
                      first
                        | (exfalso; omega)
                        | skip
                          go_wp2_with fail
                          go_meet
                          case rel => exact ⟨by (try rw [decide_eq_false p1]; try rw [decide_eq_false p2]; try rw [decide_eq_false p3]; try rw [decide_eq_true p4]; rfl), rfl⟩
                    · have y4 : ¬ 200 < (n : Int) := by omega
                      first
                        | (exfalso; omega)
                        | skip
                          go_wp2_with fail
                          go_meet
                          case rel => exact ⟨by (try rw [decide_eq_false p1]; try rw [decide_eq_false p2]; try rw [decide_eq_false p3]; try rw [decide_eq_false p4]; rfl), rfl⟩
          case rest =>
          obtain ⟨rfl, hw⟩ := hcut
          have hw := hw.symm
          subst hw
          cases hX : ((!hl && decide (0 < n)) || (decide (k = 5) && !decide (n = 1)) || decide (200 < n)) with
          | true =>
            have EE := Lib.hid (show r = false by rw [ME.out, hX]; simp)
            clear hX ME
            go_wp2_with fail
            exact bodyPost_ret (results_tmp rfl _ _ _) rfl ⟨by rw [EE.out]; rfl, HB.out⟩
          | false =>
            rw [hX] at ME
            have hn200 : n ≤ 200 := by simp at hX; omega
            clear hX
            have EE : Hid (r = maySls 0 sl) := Lib.hid (by rw [ME.out]; rfl)
            clear ME
            clear c0 c1 c2 c3 hSz
            go_upto_region 12 with (fail)
            go_wp2_with fail
            go_loopw [7] (fun i wr => ∃ j : Nat, j ≤ n ∧ i = .int .i64 (j : Int) ∧ Below w1.heap.size w1 wr ∧ maySls 0 sl = maySls (prevId sl j) (sl.drop j)) (fun i _ => n - (intOf i).toNat)
            case atStart => exact ⟨0, by omega, rfl, Below.refl _ _, rfl⟩
            case round =>
              obtain ⟨j, hj, rfl, hbr, hst⟩ := hrel
              have HST := Lib.hid hst
              have HBR := Lib.hid hbr
              have c4 : wr.cell? ⟨w.heap.size, 4, none⟩ = some (.slice A n c) := (Q1.out.after hbr).cell 4
              clear hst hbr
              by_cases hlt : j < n
              · skip
                have hji : (j : Int) < (n : Int) := by omega
                obtain ⟨p, off, rfl, hpl, hcell⟩ := HR.out.2.2 (by omega)
                obtain ⟨s, hs⟩ : ∃ s, sl[j]? = some s := ⟨sl[j]'(by have := EX.out; omega), List.getElem?_eq_getElem _⟩
                have hfit := HSL.out _ (List.mem_of_getElem? hs)
                have hat := (slAt hcell hs).after hpl HBR.out
                have hdr : sl.drop j = s :: sl.drop (j + 1) := List.drop_eq_getElem_cons_some hs
                have hmay := fun W => Lib.hid (rmaySl_any s hfit W)
                have hpv : prevId sl (j + 1) = s.id := by unfold prevId; rw [if_neg (by omega), show j + 1 - 1 = j by omega, hs]; rfl
                have hnext : maySl s = true → prevId sl j < s.id → maySls 0 sl = maySls (prevId sl (j + 1)) (sl.drop (j + 1)) := fun h1 h2 => by rw [HST.out, hdr, hpv, maySls, h1, decide_eq_true h2]; rfl
                have hbad : maySl s = false ∨ ¬ prevId sl j < s.id → r = false := fun h => by
                  rw [EE.out, HST.out, hdr, maySls]
                  rcases h with h | h
                  · rw [h]; rfl
                  · rw [decide_eq_false h, Bool.and_false]; rfl
                have hpos : maySl s = true → 1 ≤ s.id := fun h => by unfold maySl at h; simp at h; omega
                obtain ⟨i0, i1, i2, i3, i4⟩ := s
                have hat : At wr p (off + j * 5) [.int .u32 (i0 : Int), .int .u32 (i1 : Int), .int .u32 (i2 : Int), .int .u64 (i3 : Int), .int .u64 (i4 : Int)] := hat
                have hcs : (Sl.mk i0 i1 i2 i3 i4).cells.toArray = #[.int .u32 (i0 : Int), .int .u32 (i1 : Int), .int .u32 (i2 : Int), .int .u64 (i3 : Int), .int .u64 (i4 : Int)] := rfl
                rw [hcs] at hmay
                dsimp only at hpos hnext hbad
                have HAT := Lib.hid hat
                have HNX := Lib.hid hnext
                have HBAD := Lib.hid hbad
                have HPOS := Lib.hid hpos
                have hcl : ∀ k u, (slCells sl)[k]? = some u → w1.cell? ⟨p, off + k, none⟩ = some u := hcell
                have HCL := Lib.hid hcl
                have HPL := Lib.hid hpl
                have CI := Lib.hid (hcl (j * 5 + 0) _ (sl_get hs (k := 0) (v := .int .u32 (i0 : Int)) rfl))
                obtain ⟨hf0, -, -, -, -⟩ := hfit
                dsimp only at hf0
                have H1 := hmay wr
                clear hat hdr hs hcell hcl hpl hpv hnext hbad hpos hcs hmay
                go_wp2_with (first
                  | (refine wpList_value rfl (exec_load_mid rfl rfl HAT.out Try.underlying40 rfl (by kernel_rfl)) ?_)
                  | fail)
                refine H1.out.mono ?_
                rintro e w2 ⟨rfl, b2⟩
                have HB2 := Lib.hid (belowGo HBR.out b2)
                cases hms : maySl (Sl.mk i0 i1 i2 i3 i4) with
                | false =>
                  have EE2 := Lib.hid (HBAD.out (Or.inl hms))
                  have hbw := belowGo HB.out HB2.out
                  clear b2 c4
                  go_wp2_with fail
                  exact bodyPost_ret (results_tmp rfl _ _ _) rfl ⟨by rw [EE2.out]; rfl, hbw⟩
                | true =>
                  clear b2 c4
                  have C4 : ∀ W, Below w1.heap.size w1 W → W.cell? ⟨w.heap.size, 4, none⟩ = some (.slice (some ⟨p, off, none⟩) n c) := fun W hW => (Q1.out.after hW).cell 4
                  have CC : ∀ W, Below w1.heap.size w1 W → W.cell? ⟨p, off + j * 5, none⟩ = some (.int .u32 (i0 : Int)) := fun W hW => (hW.cell (p := ⟨p, off + j * 5, none⟩) HPL.out).trans (CI.out)
                  have C4 := Lib.hid C4
                  have CC := Lib.hid CC
                  go_upto_region 17 with (fail)
                  have hcur : Below w1.heap.size w1 w2.drew := ⟨HB2.out.os, HB2.out.tape, HB2.out.output, HB2.out.size, HB2.out.block⟩
                  refine wp_region_plan (fun W => Below w1.heap.size w1 W) [.calms [0, 1, 2, 3, 5, 9, 11, 12], .read 4, .calms [6, 7], .read 8, .read 10, .calms [13, 14], .read 15, .calms [16, 17]] (by kernel_rfl) (by rfl) (by kernel_rfl) (by kernel_rfl) hcur ?_
                  generalize w2.drew = w3 at *
                  by_cases hj0 : j = 0
                  · have hj1 : ¬ 0 < (j : Int) := by omega
                    have HN2 := Lib.hid (HNX.out hms (by rw [hj0]; exact HPOS.out hms))
                    have hud : ∀ b : Bool, (some undef = some (Value.bool b)) = False := fun b => by simp [undef]
                    clear hj0
                    refine plan_calms (by simp [calmRow, need, chk]; rfl) ?_
                    go_wp2_with fail
                    refine plan_skip (by rfl) (by rfl) ?_
                    refine plan_calms (by simp [calmRow, need]; rfl) ?_
                    go_wp2_with fail
                    refine plan_skip2 (some 126) (by rfl) (by rfl) (by rfl) ?_
                    refine plan_skip2 (some 128) (by rfl) (by rfl) (by rfl) ?_
                    refine plan_calms (by simp [calmRow, need]; rfl) ?_
                    go_wp2_with fail
                    refine plan_skip2 (some 133) (by rfl) (by rfl) (by rfl) ?_
                    refine plan_calms (by simp [calmRow, need, chk]; rfl) ?_
                    go_wp2_with fail
                    refine plan_end ?_
                    go_wp2_with fail
                    go_roundw
                    case rel => exact ⟨j + 1, by omega, by go_num, hcur, HN2.out⟩
                    case measure => simp [intOf]; omega
                  · obtain ⟨j1, hj1⟩ : ∃ j1, j = j1 + 1 := ⟨j - 1, by omega⟩
                    have hjp : 0 < (j : Int) := by omega
                    have hjs : (j : Int) - 1 = (j1 : Int) := by omega
                    have hjl : (j1 : Int) < (n : Int) := by omega
                    have hjl2 : j1 < n := by omega
                    obtain ⟨sp, hsp⟩ : ∃ s, sl[j1]? = some s := ⟨sl[j1]'(by have := EX.out; omega), List.getElem?_eq_getElem _⟩
                    have hpid : prevId sl j = sp.id := by unfold prevId; rw [if_neg (by omega), show j - 1 = j1 by omega, hsp]; rfl
                    clear hj1
                    have hfp := (HSL.out _ (List.mem_of_getElem? hsp)).1
                    have CP : ∀ W, Below w1.heap.size w1 W → W.cell? ⟨p, off + j1 * 5, none⟩ = some (.int .u32 (sp.id : Int)) := fun W hW =>
                      (hW.cell (p := ⟨p, off + j1 * 5, none⟩) HPL.out).trans (HCL.out (j1 * 5 + 0) _ (sl_get hsp (k := 0) (v := .int .u32 (sp.id : Int)) rfl))
                    have CP := Lib.hid CP
                    have HPID := Lib.hid hpid
                    obtain ⟨ip, hip⟩ : ∃ x, x = sp.id := ⟨_, rfl⟩
                    rw [← hip] at CP HPID hfp
                    clear hpid hsp hip hj0
                    refine plan_calms (by simp [calmRow, need, chk]; rfl) ?_
                    go_wp2_with fail
                    refine plan_read (by rfl) (.slice (some ⟨p, off, none⟩) n c) (by rfl) (fun W hW => exec_load rfl rfl (by kernel_rfl) (C4.out W hW)) ?_
                    refine plan_calms (by simp [calmRow, need]; rfl) ?_
                    go_wp2_with fail
                    refine plan_read (by rfl) (.int .u32 (i0 : Int)) (by rfl) (fun W hW => exec_load rfl rfl (by kernel_rfl) (CC.out W hW)) ?_
                    refine plan_read (by rfl) (.slice (some ⟨p, off, none⟩) n c) (by rfl) (fun W hW => exec_load rfl rfl (by kernel_rfl) (C4.out W hW)) ?_
                    refine plan_calms (by simp [calmRow, need]; rfl) ?_
                    go_wp2_with fail
                    refine plan_read (by rfl) (.int .u32 (ip : Int)) (by rfl) (fun W hW => exec_load rfl rfl (by kernel_rfl) (CP.out W hW)) ?_
                    refine plan_calms (by simp [calmRow, need, chk]; rfl) ?_
                    by_cases hlti : ip < i0
                    · have hli : ¬ (i0 : Int) ≤ (ip : Int) := by omega
                      have HN2 := Lib.hid (HNX.out hms (by rw [HPID.out]; exact hlti))
                      go_wp2_with fail
                      refine plan_end ?_
                      go_wp2_with fail
                      go_roundw
                      case rel => exact ⟨j + 1, by omega, by go_num, hcur, HN2.out⟩
                      case measure => simp [intOf]; omega
                    · have hli : (i0 : Int) ≤ (ip : Int) := by omega
                      have EE2 := Lib.hid (HBAD.out (Or.inr (by rw [HPID.out]; exact hlti)))
                      have hbw := belowGo HB.out hcur
                      go_wp2_with fail
                      refine plan_end ?_
                      go_wp2_with fail
                      exact bodyPost_ret (results_tmp rfl _ _ _) rfl ⟨by rw [EE2.out]; rfl, hbw⟩
              · obtain rfl : j = n := by omega
                have hji : ¬ (j : Int) < (j : Int) := by omega
                have ee : r = true := by rw [EE.out, HST.out, List.drop_of_length_le (by have := EX.out; omega)]; rfl
                have EE2 := Lib.hid ee
                have hbw := belowGo HB.out HBR.out
                clear ee
                go_wp2_with fail
                exact bodyPost_ret (results_tmp rfl _ _ _) rfl ⟨by rw [EE2.out]; rfl, hbw⟩
theorem rmayEd_any (d : Ed) (h1 : d.seq < 18446744073709551616) (h2 : d.id < 4294967296) (h3 : d.name.length ≤ 1000000000000) (h4 : ∀ s ∈ d.seals, s.fits) (A : Option Addr) (n c : Nat) (w : World) (hn : d.seals.length = n) (hr : Rd w w.heap.size 5 A n (slCells d.seals)) (hnc : n ≤ c) :
    Calls Try.prog 20 #[.agg (edC d ⟨d.name.toArray⟩ (.slice A n c))] w fun e w' => e = .returned (.bool (mayEd d)) ∧ Below w.heap.size w w' := by
  obtain ⟨k, nm, seq, id, sl⟩ := d
  exact rmayE_any k nm _ rfl seq id sl A n c w hn h1 h2 h3 h4 hr hnc
end Go.Proofs.Ytedjolkkidciiaa
