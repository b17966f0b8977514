/- The law's rows of chapter 18: knows. -/
import Derived.Test.YtnkkieiofpplgaaLkTwo
import Derived.Test.YtnkkieiofpplgaaLkPut
namespace Go.Proofs.Ytnkkieiofpplgaa
open Go.RowKit
attribute [local go_sem] Oper.semAt_some

def S0 : LS := ⟨[], [], [], 0⟩
def S1 : LS := S0.add (1, 16) 1 1 [97] 0 (0, 0)
def S2 : LS := S1.add (1, 50) 2 1 [98] 0 (0, 0)
def S3 (p : Nat × Nat) : LS := S2.add (1, 90) 3 1 [97] 0 p
/-- a record of the law's added: what it leaves of others -/
theorem addP_any {B g bh ba : Nat} {v : Value} {S : LS} (q : Nat) (l : List UInt8) (A : Option Addr) (c o : Nat) (p : Nat × Nat) (cd : Nat) (S' : LS) (w : World) (h : Lk w B g bh ba v S) (ho : o < 4294967296) (hnc : l.length ≤ c) (hr : Rd w w.heap.size 1 A l.length (bcells l)) (hm : l.length ≤ 1000000) (hwl : S.wrong.length ≤ 1000000)
    (hcd : S.code (1, o) q 1 l.length 0 p = cd) (hS : S.add (1, o) q 1 l 0 p = S') :
    Calls Try.prog 9 #[.pointer (some ⟨g, 0, none⟩), .agg #[.int .u32 1, .int .u32 (o : Int), .int .i64 0, .int .u64 (q : Int), .int .i64 1, .slice A l.length c, .slice none 0 0, .int .u32 (p.1 : Int), .int .u32 (p.2 : Int)]] w (RetAdd w B g bh ba v S' cd) := by
  subst hcd hS
  exact addlk_any (1, o) 0 q 1 l A l.length c none 0 0 p w h ⟨(by decide : (1 : Nat) < 4294967296), ho⟩ hnc hm hr hwl

set_option maxRecDepth 100000 in
set_option maxHeartbeats 8000000 in
theorem knowsL_any (w : World) : Calls Try.prog 13 #[] w fun e w' => e = .returned (.bool true) ∧ Below w.heap.size w w' := by
  have N1 := Lib.hid (newlk_any w)
  go_enter Try.func13, Try.ntmps13
  go_wp2_with fail
  refine N1.out.mono ?_
  rintro e w1 ⟨rfl, x1, b1⟩
  have X := Lib.hid x1
  have HB := Lib.hid b1
  have N2 := Lib.hid (newlk_any w1)
  clear N1
  go_wp2_with fail
  refine N2.out.mono ?_
  rintro e w2 ⟨rfl, y1, b2⟩
  have TW := Lib.hid (Two.new x1 b1 y1 b2)
  clear N2 x1 b1 y1 b2 X HB
  obtain ⟨gx, hgx⟩ : ∃ g, g = w.heap.size + 1 + 1 := ⟨_, rfl⟩
  obtain ⟨hx, hhx⟩ : ∃ g, g = w.heap.size := ⟨_, rfl⟩
  obtain ⟨ax, hax⟩ : ∃ g, g = w.heap.size + 1 := ⟨_, rfl⟩
  obtain ⟨gy, hgy⟩ : ∃ g, g = w1.heap.size + 1 + 1 := ⟨_, rfl⟩
  obtain ⟨hy, hhy⟩ : ∃ g, g = w1.heap.size := ⟨_, rfl⟩
  obtain ⟨ay, hay⟩ : ∃ g, g = w1.heap.size + 1 := ⟨_, rfl⟩
  have TW : Hid (Two w w2 gx hx ax (.slice none 0 0) S0 gy hy ay (.slice none 0 0) S0) := Lib.hid (by rw [hgx, hhx, hax, hgy, hhy, hay]; exact TW.out)
  rw [← hgx, ← hgy]
  clear hgx hhx hax hgy hhy hay
  go_wp2_with fail
  go_loopw [16] (fun i wr => ∃ j : Nat, j ≤ 2 ∧ i = .int .i64 (j : Int) ∧ ∃ vx vy, Two w wr gx hx ax vx (if 1 ≤ j then S3 (1, 16) else S0) gy hy ay vy (if 2 ≤ j then S3 (0, 0) else S0)) (fun i _ => 2 - (intOf i).toNat)
  case atStart => exact ⟨0, by omega, rfl, _, _, TW.out⟩
  case round =>
    clear TW
    obtain ⟨j, hj, rfl, vx, vy, tw⟩ := hrel
    match j, hj, tw with
    | 0, _, tw =>
      have TW : Hid (Two w wr gx hx ax vx S0 gy hy ay vy S0) := Lib.hid tw
      clear tw
      have hix : ∀ W, (Instr.index 51 (.agg #[.pointer (some ⟨gx, 0, none⟩), .pointer (some ⟨gy, 0, none⟩)]) (.int .i64 0)).run Try.prog W = .ok (.pointer (some ⟨gx, 0, none⟩)) W := fun W => by kernel_rfl
      have lx := TW.out.fst.lt
      have ly := TW.out.snd.lt
      have hsr := TW.out.low.size
      have b5 := belowAlloc (Below.refl wr.heap.size wr) (.cells #[.int .u32 0, .int .u32 0] 34)
      have q5 := Blk.new wr 34 #[.int .u32 0, .int .u32 0]
      have TW := Lib.hid (TW.out.after b5)
      go_upto_region 7 with fail
      generalize wr.alloc (.cells #[.int .u32 0, .int .u32 0] 34) = w3 at *
      obtain ⟨g5, hg5⟩ : ∃ g, g = wr.heap.size := ⟨_, rfl⟩
      rw [← hg5] at q5 ⊢
      have nx : Hid _ := Lib.hid (fun j hj => Nat.ne_of_lt (Nat.lt_of_lt_of_eq (lx j hj) hg5.symm))
      have ny : Hid _ := Lib.hid (fun j hj => Nat.ne_of_lt (Nat.lt_of_lt_of_eq (ly j hj) hg5.symm))
      have hs5 : Hid (w.heap.size ≤ g5) := Lib.hid (by rw [hg5]; exact hsr)
      clear hg5 b5 lx ly hsr
      go_wp2_with fail
      refine (atF_any 16 w3).mono ?_
      rintro e w4 ⟨rfl, b4⟩
      have TW := Lib.hid (TW.out.after b4)
      have Q5 := Lib.hid (q5.after b4)
      clear q5 b4
      go_upto_region 8 with (first | (refine wpList_storeB rfl 34 (.tmp 5) (.tmp 23) rfl rfl rfl Q5.out (by kernel_rfl) (by rfl) (by simp [Value.oneCell']) ?_) | fail)
      have TW := Lib.hid (TW.out.setRow nx.out ny.out hs5.out #[.int .u32 1, .int .u32 16])
      have Q5 := Lib.hid (Q5.out.row #[.int .u32 1, .int .u32 16])
      generalize w4.setRow g5 #[.int .u32 1, .int .u32 16] = w5 at *
      go_simp
      have NX := Lib.hid nx.out
      clear nx ny hs5
      have PU : Hid (Calls Try.prog 25 #[.int .u64 1, .string ⟨#[97]⟩, .int .u32 16, .agg #[.int .u32 0, .int .u32 0]] w5 (RetPutF 1 [97] 16 (0, 0) w5)) := Lib.hid (putF_any 1 [97] 16 (0, 0) (by decide) w5)
      go_wp2_with fail
      refine PU.out.mono ?_
      rintro e wp1 ⟨gp1, cp1, rfl, hcp, hrp, -, bp⟩
      have TW := Lib.hid (TW.out.after bp)
      have AD : Hid (Calls Try.prog 9 #[.pointer (some ⟨gx, 0, none⟩), .agg #[.int .u32 1, .int .u32 16, .int .i64 0, .int .u64 1, .int .i64 1, .slice (some ⟨gp1, 0, none⟩) 1 cp1, .slice none 0 0, .int .u32 0, .int .u32 0]] wp1 (RetAdd wp1 w.heap.size gx _ _ _ (S1) 0)) := Lib.hid (addP_any 1 [97] (some ⟨gp1, 0, none⟩) cp1 16 (0, 0) 0 (S1) wp1 TW.out.fst (by decide) hcp hrp (by decide) (by decide +kernel) (by decide +kernel) rfl)
      have Q5 := Lib.hid (Q5.out.after bp)
      clear PU hcp hrp bp
      go_wp2_with fail
      refine AD.out.mono ?_
      rintro e wa1 ra
      obtain ⟨va1, rfl, tw, qa, na⟩ := TW.out.addq ra Q5.out NX.out
      have TW := Lib.hid tw
      have Q5 := Lib.hid qa
      have NX := Lib.hid na
      clear AD ra tw qa na
      have PU : Hid (Calls Try.prog 25 #[.int .u64 2, .string ⟨#[98]⟩, .int .u32 50, .agg #[.int .u32 0, .int .u32 0]] wa1 (RetPutF 2 [98] 50 (0, 0) wa1)) := Lib.hid (putF_any 2 [98] 50 (0, 0) (by decide) wa1)
      go_wp2_with fail
      refine PU.out.mono ?_
      rintro e wp2 ⟨gp2, cp2, rfl, hcp, hrp, -, bp⟩
      have TW := Lib.hid (TW.out.after bp)
      have AD : Hid (Calls Try.prog 9 #[.pointer (some ⟨gx, 0, none⟩), .agg #[.int .u32 1, .int .u32 50, .int .i64 0, .int .u64 2, .int .i64 1, .slice (some ⟨gp2, 0, none⟩) 1 cp2, .slice none 0 0, .int .u32 0, .int .u32 0]] wp2 (RetAdd wp2 w.heap.size gx _ _ _ (S2) 0)) := Lib.hid (addP_any 2 [98] (some ⟨gp2, 0, none⟩) cp2 50 (0, 0) 0 (S2) wp2 TW.out.fst (by decide) hcp hrp (by decide) (by decide +kernel) (by decide +kernel) rfl)
      have Q5 := Lib.hid (Q5.out.after bp)
      clear PU hcp hrp bp
      go_wp2_with fail
      refine AD.out.mono ?_
      rintro e wa2 ra
      obtain ⟨va2, rfl, tw, qa, na⟩ := TW.out.addq ra Q5.out NX.out
      have TW := Lib.hid tw
      have Q5 := Lib.hid qa
      have NX := Lib.hid na
      clear AD ra tw qa na
      have PU : Hid (Calls Try.prog 25 #[.int .u64 3, .string ⟨#[97]⟩, .int .u32 90, .agg #[.int .u32 1, .int .u32 16]] wa2 (RetPutF 3 [97] 90 (1, 16) wa2)) := Lib.hid (putF_any 3 [97] 90 (1, 16) (by decide) wa2)
      go_wp2_with (first | (refine wpList_value rfl (exec_load_blk rfl rfl Q5.out Try.underlying34 rfl (by kernel_rfl)) ?_) | fail)
      refine PU.out.mono ?_
      rintro e wp3 ⟨gp3, cp3, rfl, hcp, hrp, -, bp⟩
      have TW := Lib.hid (TW.out.after bp)
      have AD : Hid (Calls Try.prog 9 #[.pointer (some ⟨gx, 0, none⟩), .agg #[.int .u32 1, .int .u32 90, .int .i64 0, .int .u64 3, .int .i64 1, .slice (some ⟨gp3, 0, none⟩) 1 cp3, .slice none 0 0, .int .u32 1, .int .u32 16]] wp3 (RetAdd wp3 w.heap.size gx _ _ _ (S3 (1, 16)) 0)) := Lib.hid (addP_any 3 [97] (some ⟨gp3, 0, none⟩) cp3 90 (1, 16) 0 (S3 (1, 16)) wp3 TW.out.fst (by decide) hcp hrp (by decide) (by decide +kernel) (by decide +kernel) rfl)
      have Q5 := Lib.hid (Q5.out.after bp)
      clear PU hcp hrp bp
      go_wp2_with fail
      refine AD.out.mono ?_
      rintro e wa3 ra
      obtain ⟨va3, rfl, tw, qa, na⟩ := TW.out.addq ra Q5.out NX.out
      have TW := Lib.hid tw
      have Q5 := Lib.hid qa
      have NX := Lib.hid na
      clear AD ra tw qa na
      go_wp2_with fail
      go_roundw
      case rel => exact ⟨1, by omega, rfl, _, _, TW.out⟩
      case measure => simp [intOf]
    | 1, _, tw =>
      have TW : Hid (Two w wr gx hx ax vx (S3 (1, 16)) gy hy ay vy S0) := Lib.hid tw
      clear tw
      have hix : ∀ W, (Instr.index 51 (.agg #[.pointer (some ⟨gx, 0, none⟩), .pointer (some ⟨gy, 0, none⟩)]) (.int .i64 1)).run Try.prog W = .ok (.pointer (some ⟨gy, 0, none⟩)) W := fun W => by kernel_rfl
      have TW := Lib.hid TW.out.swap
      have lx := TW.out.fst.lt
      have ly := TW.out.snd.lt
      have hsr := TW.out.low.size
      have b5 := belowAlloc (Below.refl wr.heap.size wr) (.cells #[.int .u32 0, .int .u32 0] 34)
      have q5 := Blk.new wr 34 #[.int .u32 0, .int .u32 0]
      have TW := Lib.hid (TW.out.after b5)
      go_upto_region 8 with fail
      generalize wr.alloc (.cells #[.int .u32 0, .int .u32 0] 34) = w3 at *
      obtain ⟨g5, hg5⟩ : ∃ g, g = wr.heap.size := ⟨_, rfl⟩
      rw [← hg5] at q5 ⊢
      have nx : Hid _ := Lib.hid (fun j hj => Nat.ne_of_lt (Nat.lt_of_lt_of_eq (lx j hj) hg5.symm))
      have ny : Hid _ := Lib.hid (fun j hj => Nat.ne_of_lt (Nat.lt_of_lt_of_eq (ly j hj) hg5.symm))
      have hs5 : Hid (w.heap.size ≤ g5) := Lib.hid (by rw [hg5]; exact hsr)
      clear hg5 b5 lx ly hsr
      have Q5 := Lib.hid q5
      clear q5
      obtain ⟨w5, hw5⟩ : ∃ w, w = w3 := ⟨_, rfl⟩
      subst hw5
      have NX := Lib.hid nx.out
      clear nx ny hs5
      have PU : Hid (Calls Try.prog 25 #[.int .u64 1, .string ⟨#[97]⟩, .int .u32 16, .agg #[.int .u32 0, .int .u32 0]] w5 (RetPutF 1 [97] 16 (0, 0) w5)) := Lib.hid (putF_any 1 [97] 16 (0, 0) (by decide) w5)
      go_wp2_with fail
      refine PU.out.mono ?_
      rintro e wp1 ⟨gp1, cp1, rfl, hcp, hrp, -, bp⟩
      have TW := Lib.hid (TW.out.after bp)
      have AD : Hid (Calls Try.prog 9 #[.pointer (some ⟨gy, 0, none⟩), .agg #[.int .u32 1, .int .u32 16, .int .i64 0, .int .u64 1, .int .i64 1, .slice (some ⟨gp1, 0, none⟩) 1 cp1, .slice none 0 0, .int .u32 0, .int .u32 0]] wp1 (RetAdd wp1 w.heap.size gy _ _ _ (S1) 0)) := Lib.hid (addP_any 1 [97] (some ⟨gp1, 0, none⟩) cp1 16 (0, 0) 0 (S1) wp1 TW.out.fst (by decide) hcp hrp (by decide) (by decide +kernel) (by decide +kernel) rfl)
      have Q5 := Lib.hid (Q5.out.after bp)
      clear PU hcp hrp bp
      go_wp2_with fail
      refine AD.out.mono ?_
      rintro e wa1 ra
      obtain ⟨va1, rfl, tw, qa, na⟩ := TW.out.addq ra Q5.out NX.out
      have TW := Lib.hid tw
      have Q5 := Lib.hid qa
      have NX := Lib.hid na
      clear AD ra tw qa na
      have PU : Hid (Calls Try.prog 25 #[.int .u64 2, .string ⟨#[98]⟩, .int .u32 50, .agg #[.int .u32 0, .int .u32 0]] wa1 (RetPutF 2 [98] 50 (0, 0) wa1)) := Lib.hid (putF_any 2 [98] 50 (0, 0) (by decide) wa1)
      go_wp2_with fail
      refine PU.out.mono ?_
      rintro e wp2 ⟨gp2, cp2, rfl, hcp, hrp, -, bp⟩
      have TW := Lib.hid (TW.out.after bp)
      have AD : Hid (Calls Try.prog 9 #[.pointer (some ⟨gy, 0, none⟩), .agg #[.int .u32 1, .int .u32 50, .int .i64 0, .int .u64 2, .int .i64 1, .slice (some ⟨gp2, 0, none⟩) 1 cp2, .slice none 0 0, .int .u32 0, .int .u32 0]] wp2 (RetAdd wp2 w.heap.size gy _ _ _ (S2) 0)) := Lib.hid (addP_any 2 [98] (some ⟨gp2, 0, none⟩) cp2 50 (0, 0) 0 (S2) wp2 TW.out.fst (by decide) hcp hrp (by decide) (by decide +kernel) (by decide +kernel) rfl)
      have Q5 := Lib.hid (Q5.out.after bp)
      clear PU hcp hrp bp
      go_wp2_with fail
      refine AD.out.mono ?_
      rintro e wa2 ra
      obtain ⟨va2, rfl, tw, qa, na⟩ := TW.out.addq ra Q5.out NX.out
      have TW := Lib.hid tw
      have Q5 := Lib.hid qa
      have NX := Lib.hid na
      clear AD ra tw qa na
      have PU : Hid (Calls Try.prog 25 #[.int .u64 3, .string ⟨#[97]⟩, .int .u32 90, .agg #[.int .u32 0, .int .u32 0]] wa2 (RetPutF 3 [97] 90 (0, 0) wa2)) := Lib.hid (putF_any 3 [97] 90 (0, 0) (by decide) wa2)
      go_wp2_with (first | (refine wpList_value rfl (exec_load_blk rfl rfl Q5.out Try.underlying34 rfl (by kernel_rfl)) ?_) | fail)
      refine PU.out.mono ?_
      rintro e wp3 ⟨gp3, cp3, rfl, hcp, hrp, -, bp⟩
      have TW := Lib.hid (TW.out.after bp)
      have AD : Hid (Calls Try.prog 9 #[.pointer (some ⟨gy, 0, none⟩), .agg #[.int .u32 1, .int .u32 90, .int .i64 0, .int .u64 3, .int .i64 1, .slice (some ⟨gp3, 0, none⟩) 1 cp3, .slice none 0 0, .int .u32 0, .int .u32 0]] wp3 (RetAdd wp3 w.heap.size gy _ _ _ (S3 (0, 0)) 0)) := Lib.hid (addP_any 3 [97] (some ⟨gp3, 0, none⟩) cp3 90 (0, 0) 0 (S3 (0, 0)) wp3 TW.out.fst (by decide) hcp hrp (by decide) (by decide +kernel) (by decide +kernel) rfl)
      have Q5 := Lib.hid (Q5.out.after bp)
      clear PU hcp hrp bp
      go_wp2_with fail
      refine AD.out.mono ?_
      rintro e wa3 ra
      obtain ⟨va3, rfl, tw, qa, na⟩ := TW.out.addq ra Q5.out NX.out
      have TW := Lib.hid tw
      have Q5 := Lib.hid qa
      have NX := Lib.hid na
      clear AD ra tw qa na
      have TW := Lib.hid TW.out.swap
      go_wp2_with fail
      go_roundw
      case rel => exact ⟨2, by omega, rfl, _, _, TW.out⟩
      case measure => simp [intOf]
    | 2, _, tw =>
      have TW : Hid (Two w wr gx hx ax vx (S3 (1, 16)) gy hy ay vy (S3 (0, 0))) := Lib.hid tw
      clear tw
      have hcv := Lib.run_convert_bytes_const (P := Try.prog) wr 36 5 #[.int .u8 97] 1 1 Try.underlying36 Try.underlying5
      have b1 := belowAlloc (Below.refl wr.heap.size wr) (.cells #[.int .u8 97] 5 (#[Value.int .u8 97].size, #[Value.int .u8 97].size + 1))
      have TW := Lib.hid (TW.out.after b1)
      have r1 : Hid (Rd (wr.alloc (.cells #[.int .u8 97] 5 (#[Value.int .u8 97].size, #[Value.int .u8 97].size + 1))) _ 1 (some ⟨wr.heap.size, 0, none⟩) 1 (bcells [97])) := Lib.hid (rd_newC wr #[.int .u8 97] 5 _ [97] rfl (by decide))
      have HD : Hid (Calls Try.prog 10 #[.pointer (some ⟨gx, 0, none⟩), .slice (some ⟨wr.heap.size, 0, none⟩) 1 1] (wr.alloc (.cells #[.int .u8 97] 5 (#[Value.int .u8 97].size, #[Value.int .u8 97].size + 1))) fun e w' => e = .returned (.tuple #[.agg #[.int .u32 1, .int .u32 90, .int .u64 3, .int .i64 1], .bool true]) ∧ Below (wr.alloc (.cells #[.int .u8 97] 5 (#[Value.int .u8 97].size, #[Value.int .u8 97].size + 1))).heap.size (wr.alloc (.cells #[.int .u8 97] 5 (#[Value.int .u8 97].size, #[Value.int .u8 97].size + 1))) w') := Lib.hid (by
        have := headlk_any [97] (some ⟨wr.heap.size, 0, none⟩) 1 1 _ TW.out.fst (Nat.le_refl _) (by omega) r1.out
        rw [show (S3 (1, 16)).head [97] = some (1, 90, 3, 1) from by decide +kernel] at this
        exact this)
      clear b1 r1
      go_wp2_with fail
      clear hcv
      refine HD.out.mono ?_
      rintro e w3 ⟨rfl, b3⟩
      have TW := Lib.hid (TW.out.after b3)
      clear HD b3
      have q6 := Blk.new w3 42 #[.int .u32 1, .int .u32 90, .int .u64 3, .int .i64 1]
      have b4 := belowAlloc (Below.refl w3.heap.size w3) (.cells #[.int .u32 1, .int .u32 90, .int .u64 3, .int .i64 1] 42)
      have TW := Lib.hid (TW.out.after b4)
      go_upto_region 12 with fail
      generalize w3.alloc (.cells #[.int .u32 1, .int .u32 90, .int .u64 3, .int .i64 1] 42) = w4 at *
      obtain ⟨g6, hg6⟩ : ∃ g, g = w3.heap.size := ⟨_, rfl⟩
      rw [← hg6] at q6 ⊢
      clear hg6 b4
      go_wp2_with fail
      refine (atF_any 90 w4).mono ?_
      rintro e w5 ⟨rfl, b5⟩
      have TW := Lib.hid (TW.out.after b5)
      have Q6 := Lib.hid (q6.after b5)
      clear b5 q6
      have AH : Hid (Calls Try.prog 14 #[.pointer (some ⟨gx, 0, none⟩), .agg #[.int .u32 1, .int .u32 90]] w5 fun e w' => e = .returned (.tuple #[.agg #[.int .u32 1, .int .u32 16], .bool true]) ∧ Below w5.heap.size w5 w') := Lib.hid (by
        have := aheadlk_any (1, 90) ⟨by decide, by decide⟩ w5 TW.out.fst
        rw [show mget (S3 (1, 16)).ahead (1, 90) = some (1, 16) from by decide +kernel] at this
        exact this)
      go_wp2_with fail
      refine AH.out.mono ?_
      rintro e w6 ⟨rfl, b6⟩
      have TW := Lib.hid (TW.out.after b6)
      have Q6 := Lib.hid (Q6.out.after b6)
      clear AH b6
      have q8 := Blk.new w6 34 #[.int .u32 1, .int .u32 16]
      have b7 := belowAlloc (Below.refl w6.heap.size w6) (.cells #[.int .u32 1, .int .u32 16] 34)
      have TW := Lib.hid (TW.out.after b7)
      have Q6 := Lib.hid (Q6.out.after b7)
      go_upto_region 13 with fail
      generalize w6.alloc (.cells #[.int .u32 1, .int .u32 16] 34) = w7 at *
      obtain ⟨g8, hg8⟩ : ∃ g, g = w6.heap.size := ⟨_, rfl⟩
      rw [← hg8] at q8 ⊢
      clear hg8 b7
      have WR := Lib.hid (wronglk_any w7 TW.out.snd (by decide +kernel))
      rw [show (S3 (0, 0)).wrong = [(1, 90)] from by decide +kernel] at WR
      go_wp2_with fail
      refine WR.out.mono ?_
      rintro e w8 ⟨v8, rfl, o8, b8⟩
      have TW := Lib.hid (TW.out.after b8)
      have Q6 := Lib.hid (Q6.out.after b8)
      have Q8 := Lib.hid (q8.after b8)
      obtain ⟨gw, cw, rfl, -, -⟩ := own_ptr o8 (by decide)
      have OW : Hid (Ow _ _ _ _ _ _ _) := Lib.hid o8
      clear WR o8 b8 q8
      have hcur : Below w8.heap.size w8 w8.drew := ⟨rfl, rfl, rfl, Nat.le_refl _, fun _ _ => rfl⟩
      have EQ := Lib.hid (fun a b c d W => equal_loc a b c d W)
      have AT6 := Lib.hid (fun W (h : Below w8.heap.size w8 W) => (show At W g6 0 [.int .u32 1, .int .u32 90] from fun j u hu => by
        rw [(Q6.out.after h).cell]
        match j, hu with
        | 0, hu => exact hu
        | 1, hu => exact hu
        | j + 2, hu => simp at hu))
      have ATW := Lib.hid (fun W (h : Below w8.heap.size w8 W) => (show At W gw 0 [.int .u32 1, .int .u32 90] from fun j u hu => by
        rw [Nat.zero_add]
        exact Ow.cell (Ow.after OW.out h) rfl (by decide) hu |> fun t => by rwa [Nat.zero_add] at t))
      go_upto_region 14 with fail
      refine wp_region_plan (fun W => Below w8.heap.size w8 W) [.calms [0, 1, 2], .read 3, .act 4, .act 5, .calms [6, 7, 8, 9, 10], .read 11, .act 12, .act 13, .calms [14, 15, 16], .act 17, .calms [18, 19, 20, 21, 22, 23, 24, 25, 26, 27, 28], .read 29, .act 30, .act 31, .calms [32, 33]] (by kernel_rfl) (by rfl) (by kernel_rfl) (by kernel_rfl) hcur ?_
      have TW := Lib.hid (TW.out.after hcur)
      generalize w8.drew = w9 at *
      have HC := Lib.hid hcur
      clear hcur
      refine plan_calms (by simp [calmRow, need]; rfl) ?_
      go_wp2_with fail
      refine plan_read (by rfl) (.agg #[.int .u32 1, .int .u32 90]) (by rfl) (fun W hW => exec_load_mid rfl rfl (AT6.out W hW) Try.underlying34 rfl (by kernel_rfl)) ?_
      refine plan_act (by rfl) ?_
      go_wp2_with fail
      refine (atF_any 90 w9).mono ?_
      rintro e w10 ⟨rfl, b10⟩
      have TW := Lib.hid (TW.out.after b10)
      have HC := Lib.hid (belowGo HC.out b10)
      clear b10
      go_wp2_with fail
      refine ⟨HC.out, ?_⟩
      refine plan_act (by rfl) ?_
      refine wpList_value (v := .bool true) rfl (exec_bin rfl (run_eql_agg (by kernel_rfl) (EQ.out 1 90 1 90 _))) ?_
      go_wp2_with fail
      refine ⟨HC.out, ?_⟩
      refine plan_calms (by simp [calmRow, need]; rfl) ?_
      go_wp2_with fail
      refine plan_read (by rfl) (.agg #[.int .u32 1, .int .u32 16]) (by rfl) (fun W hW => exec_load_blk rfl rfl (Q8.out.after hW) Try.underlying34 rfl (by kernel_rfl)) ?_
      refine plan_act (by rfl) ?_
      go_wp2_with fail
      refine (atF_any 16 w10).mono ?_
      rintro e w11 ⟨rfl, b11⟩
      have TW := Lib.hid (TW.out.after b11)
      have HC := Lib.hid (belowGo HC.out b11)
      clear b11
      go_wp2_with fail
      refine ⟨HC.out, ?_⟩
      refine plan_act (by rfl) ?_
      refine wpList_value (v := .bool true) rfl (exec_bin rfl (run_eql_agg (by kernel_rfl) (EQ.out 1 16 1 16 _))) ?_
      go_wp2_with fail
      refine ⟨HC.out, ?_⟩
      refine plan_calms (by simp [calmRow, need]; rfl) ?_
      go_wp2_with fail
      have WR := Lib.hid (wronglk_any w11 TW.out.fst (by decide +kernel))
      rw [show (S3 (1, 16)).wrong = [] from by decide +kernel] at WR
      refine plan_act (by rfl) ?_
      go_wp2_with fail
      refine WR.out.mono ?_
      rintro e w12 ⟨v12, rfl, o12, b12⟩
      obtain ⟨A12, c12, rfl, -⟩ := own_cap o12
      have TW := Lib.hid (TW.out.after b12)
      have HC := Lib.hid (belowGo HC.out b12)
      clear WR o12 b12
      go_wp2_with fail
      refine ⟨HC.out, ?_⟩
      refine plan_calms (by simp [calmRow, need, chk]; rfl) ?_
      go_wp2_with fail
      refine plan_read (by rfl) (.agg #[.int .u32 1, .int .u32 90]) (by rfl) (fun W hW => exec_load_mid rfl rfl (ATW.out W hW) Try.underlying34 rfl (by kernel_rfl)) ?_
      refine plan_act (by rfl) ?_
      go_wp2_with fail
      refine (atF_any 90 w12).mono ?_
      rintro e w13 ⟨rfl, b13⟩
      have TW := Lib.hid (TW.out.after b13)
      have HC := Lib.hid (belowGo HC.out b13)
      clear b13
      go_wp2_with fail
      refine ⟨HC.out, ?_⟩
      refine plan_last (by rfl) (by kernel_rfl) ?_
      refine wpList_value (v := .bool true) rfl (exec_bin rfl (run_eql_agg (by kernel_rfl) (EQ.out 1 90 1 90 _))) ?_
      go_wp2_with fail
      refine plan_calms (by simp [calmRow, need]; rfl) ?_
      go_wp2_with fail
      refine plan_end ?_
      go_wp2_with fail
      exact bodyPost_ret (results_tmp rfl _ _ _) rfl ⟨rfl, TW.out.low⟩
    | j + 3, hj, _ => omega
end Go.Proofs.Ytnkkieiofpplgaa
