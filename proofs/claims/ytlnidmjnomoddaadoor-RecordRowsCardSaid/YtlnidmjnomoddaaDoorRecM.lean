/- Chapter 08's statements: made, few. For every record. -/
import Derived.Test.YtlnidmjnomoddaaDoorRecK
namespace Go.Proofs.YtlnidmjnomoddaaDoor
open Go.RowKit

theorem Blk.rdAt {w : World} {g : Nat} {t : TypeId} {cs : Array Value} (h : Blk w g t cs) {n size : Nat} (hs : cs.size = n * size) (hn : n ≤ maxLen) : Rd w (g + 1) size (some ⟨g, 0, none⟩) n cs.toList :=
  ⟨by simpa using hs, hn, fun _ => ⟨g, 0, rfl, Nat.lt_succ_self g, fun j u hu => by rw [Nat.zero_add, h.cell, ← hu, Array.getElem?_toList]⟩⟩
theorem blk_eq {w : World} {g : Nat} {t : TypeId} {cs cs' : Array Value} (h : Blk w g t cs) (e : cs = cs') : Blk w g t cs' := e ▸ h
/-- a slice that reads so, whatever is written in the blocks from lo on, below hi -/
def RdO (w : World) (lo hi : Nat) (A : Option Addr) (n : Nat) (l : List UInt8) : Prop := Rd w w.heap.size 1 A n (bcells l) ∧ (0 < n → ∃ b off, A = some ⟨b, off, none⟩ ∧ (b < lo ∨ hi ≤ b))
theorem RdO.low {w : World} {lo hi n : Nat} {A : Option Addr} {l : List UInt8} (h : Rd w lo 1 A n (bcells l)) (hlo : lo ≤ w.heap.size) : RdO w lo hi A n l := ⟨h.more hlo, fun hn => by
  obtain ⟨b, off, e, hb, _⟩ := h.2.2 hn
  exact ⟨b, off, e, .inl hb⟩⟩
theorem RdO.new {w : World} {lo hi n g off : Nat} {l : List UInt8} (h : Rd w w.heap.size 1 (some ⟨g, off, none⟩) n (bcells l)) (hg : hi ≤ g) : RdO w lo hi (some ⟨g, off, none⟩) n l := ⟨h, fun _ => ⟨g, off, rfl, .inr hg⟩⟩
theorem RdO.nil_ (w : World) (lo hi : Nat) (A : Option Addr) : RdO w lo hi A 0 [] := ⟨Rd.nil_ _ _ _ _, fun h => absurd h (by omega)⟩
theorem RdO.set_ {w : World} {lo hi n : Nat} {A : Option Addr} {l : List UInt8} (h : RdO w lo hi A n l) {p : Addr} (h1 : lo ≤ p.block) (h2 : p.block < hi) (u : Value) : RdO (w.setCell p u) lo hi A n l :=
  ⟨⟨h.1.1, h.1.2.1, fun hn => by
    obtain ⟨b, off, e, hb, hc⟩ := h.1.2.2 hn
    obtain ⟨b', off', e', hx⟩ := h.2 hn
    rw [e] at e'
    injection e' with e'
    injection e' with e1 e2
    subst e1; subst e2
    exact ⟨b, off, e, by simpa using hb, fun j u' hu => by rw [World.cell?_setCell_other w p ⟨b, off + j, none⟩ u (fun e => by rw [e] at h1 h2; simp at h1 h2; omega)]; exact hc j u' hu⟩⟩, h.2⟩
theorem RdO.after {w w' : World} {lo hi n : Nat} {A : Option Addr} {l : List UInt8} (h : RdO w lo hi A n l) (hb : Below w.heap.size w w') : RdO w' lo hi A n l := ⟨h.1.after hb, h.2⟩
def RetRecV (q : Nat) (k : Int) (a b : List UInt8) (s o B0 : Nat) (w : World) (e : Ending) (w' : World) : Prop := ∃ A c B d, e = .returned (recV q k (.slice A a.length c) (.slice B b.length d) s o) ∧ a.length ≤ c ∧ b.length ≤ d ∧ RdO w' B0 w.heap.size A a.length a ∧ RdO w' B0 w.heap.size B b.length b ∧ Below w.heap.size w w'
theorem retRecV {q : Nat} {k : Int} {a b : List UInt8} {s o B0 : Nat} {w w' : World} {A B : Option Addr} {n m c d : Nat} (ha : a.length = n) (hb : b.length = m) (hc : n ≤ c) (hd : m ≤ d) (r1 : RdO w' B0 w.heap.size A n a) (r2 : RdO w' B0 w.heap.size B m b) (h : Below w.heap.size w w') :
    RetRecV q k a b s o B0 w (.returned (.agg #[.int .u64 (q : Int), .int .i64 k, .slice A n c, .slice B m d, .int .u32 (s : Int), .int .u32 (o : Int)])) w' := by
  subst ha; subst hb
  exact ⟨A, c, B, d, rfl, hc, hd, r1, r2, h⟩
def keyM (a : List UInt8) : List UInt8 := if a.length = 0 then [7] else a.take 64
def valM (k : Int) (b : List UInt8) : List UInt8 := if k = 2 then [] else b.take 1024
def kindM (k : Int) : Nat := if k = 2 then 2 else 1
def seqM (q : Nat) : Nat := 1 + q % 1099511627776
def segM (s : Nat) : Nat := s % 16777216
def offM (s o : Nat) : Nat := if segM s = 0 then 0 else 16 + o % 16777201
theorem made_may (q : Nat) (k : Int) (a b : List UInt8) (s o : Nat) : mayR (seqM q) (kindM k : Int) (keyM a).length (valM k b).length (segM s) (offM s o) = true := by
  have h1 : (keyM a).length = if a.length = 0 then 1 else min 64 a.length := by unfold keyM; split <;> simp
  have h2 : (valM k b).length = if k = 2 then 0 else min 1024 b.length := by unfold valM; split <;> simp
  unfold mayR kindR seqR mayB mayV mayL noneB standsB kindM seqM offM segM
  rw [h1, h2]
  simp only [Bool.and_eq_true, Bool.or_eq_true, decide_eq_true_eq]
  refine ⟨?_, ⟨by omega, by omega⟩, ⟨by split <;> omega, by split <;> omega⟩, by split <;> omega, ?_⟩
  · split
    · exact .inr ⟨rfl, rfl⟩
    · exact .inl rfl
  · split <;> omega
theorem and24_u32 (a : Nat) (ha : a < 4294967296) : bits .and .u32 (a : Int) 16777215 = ((a % 16777216 : Nat) : Int) := by
  have := bits_and_u32_nat a 16777215 ha (by omega)
  rw [show (16777215 : Nat) = 2 ^ 24 - 1 from rfl, Nat.and_two_pow_sub_one_eq_mod] at this
  exact this

set_option maxRecDepth 10000 in
set_option maxHeartbeats 1000000 in
theorem few_any (q : Nat) (k : Int) (a b : List UInt8) (A : Option Addr) (n c : Nat) (B : Option Addr) (m d : Nat) (s o : Nat) (w : World) (hnc : n ≤ c) (hmd : m ≤ d) (B0 : Nat) (hB0 : B0 ≤ w.heap.size) (ha : Rd w B0 1 A n (bcells a)) (hb : Rd w B0 1 B m (bcells b)) :
    Calls Tryd.prog 13 #[recV q k (.slice A n c) (.slice B m d) s o] w (RetRecV q k (a.take 80) (b.take 1100) s o B0 w) := by
  have hla := ha.1
  have hlb := hb.1
  have hma := ha.2.1
  have hmb := hb.2.1
  unfold maxLen at hma hmb
  rw [bcells_len, Nat.mul_one] at hla hlb
  obtain ⟨n1, hn1⟩ : ∃ n1, n1 = min n 80 := ⟨_, rfl⟩
  obtain ⟨m1, hm1⟩ : ∃ m1, m1 = min m 1100 := ⟨_, rfl⟩
  have hM1 : min (n : Int) 80 = (n1 : Int) := by omega
  have hM2 : min (m : Int) 1100 = (m1 : Int) := by omega
  have ta := ha.btake (k := n1) (by omega)
  have tb := hb.btake (k := m1) (by omega)
  have t1 : n1 ≤ c := by omega
  have t2 : m1 ≤ d := by omega
  have t3 : (n1 : Int) ≤ (c : Int) := by omega
  have t4 : (m1 : Int) ≤ (d : Int) := by omega
  have q1 := (Blk.new w 28 #[.int .u64 (q : Int), .int .i64 k, .slice A n c, .slice B m d, .int .u32 (s : Int), .int .u32 (o : Int)]).alloc (.cells #[.int .u64 0, .int .i64 0, .slice none 0 0, .slice none 0 0, .int .u32 0, .int .u32 0] 28)
  have q2 := Blk.newAt (w.alloc (.cells #[.int .u64 (q : Int), .int .i64 k, .slice A n c, .slice B m d, .int .u32 (s : Int), .int .u32 (o : Int)] 28)) 28 #[.int .u64 0, .int .i64 0, .slice none 0 0, .slice none 0 0, .int .u32 0, .int .u32 0] (g := w.heap.size + 1) (by simp)
  have hbw := belowAlloc ((Below.refl w.heap.size w).alloc (Nat.le_refl _) (.cells #[.int .u64 (q : Int), .int .i64 k, .slice A n c, .slice B m d, .int .u32 (s : Int), .int .u32 (o : Int)] 28)) (.cells #[.int .u64 0, .int .i64 0, .slice none 0 0, .slice none 0 0, .int .u32 0, .int .u32 0] 28)
  have e1 : (a.take 80).length = n1 := by rw [List.length_take]; omega
  have e2 : (b.take 1100).length = m1 := by rw [List.length_take]; omega
  have e3 : a.take n1 = a.take 80 := by rw [hn1, ← hla, Nat.min_comm, ← List.take_take, List.take_of_length_le (Nat.le_refl a.length)]
  have e4 : b.take m1 = b.take 1100 := by rw [hm1, ← hlb, Nat.min_comm, ← List.take_take, List.take_of_length_le (Nat.le_refl b.length)]
  rw [e3] at ta
  rw [e4] at tb
  have E1 := Lib.hid e1
  have E2 := Lib.hid e2
  clear e1 e2 e3 e4 hn1 hm1 hla hlb
  unfold recV
  go_enter Tryd.func13, Tryd.ntmps13
  go_wp2_with fail
  generalize (w.alloc (.cells #[.int .u64 (q : Int), .int .i64 k, .slice A n c, .slice B m d, .int .u32 (s : Int), .int .u32 (o : Int)] 28)).alloc (.cells #[.int .u64 0, .int .i64 0, .slice none 0 0, .slice none 0 0, .int .u32 0, .int .u32 0] 28) = w1 at *
  refine wp_region_plan (fun W => Blk W w.heap.size 28 #[.int .u64 (q : Int), .int .i64 k, .slice A n c, .slice B m d, .int .u32 (s : Int), .int .u32 (o : Int)]) [.calms [0, 2, 7, 9], .read 1, .read 3, .calms [4, 5, 6], .read 8, .read 10, .calms [11, 12, 13, 14], .act 15, .calms [16], .act 17] (by kernel_rfl) (by rfl) (by kernel_rfl) (by kernel_rfl) q1 ?_
  have q1 : Blk w1.drew w.heap.size 28 #[.int .u64 (q : Int), .int .i64 k, .slice A n c, .slice B m d, .int .u32 (s : Int), .int .u32 (o : Int)] := q1
  have q2 : Blk w1.drew (w.heap.size + 1) 28 #[.int .u64 0, .int .i64 0, .slice none 0 0, .slice none 0 0, .int .u32 0, .int .u32 0] := q2
  have hbw : Below w.heap.size w w1.drew := hbw.drew
  generalize w1.drew = w2 at *
  refine plan_calms (by simp [calmRow, need]; rfl) ?_
  go_wp2_with fail
  refine plan_read (by rfl) (.slice A n c) (by rfl) (fun W hW => exec_load rfl rfl (by kernel_rfl) (hW.cell 2)) ?_
  refine plan_read (by rfl) (.slice A n c) (by rfl) (fun W hW => exec_load rfl rfl (by kernel_rfl) (hW.cell 2)) ?_
  refine plan_calms (by simp [calmRow, need, chk]; rfl) ?_
  go_wp2_with fail
  refine plan_read (by rfl) (.slice B m d) (by rfl) (fun W hW => exec_load rfl rfl (by kernel_rfl) (hW.cell 3)) ?_
  refine plan_read (by rfl) (.slice B m d) (by rfl) (fun W hW => exec_load rfl rfl (by kernel_rfl) (hW.cell 3)) ?_
  refine plan_calms (by simp [calmRow, need, chk]; rfl) ?_
  go_wp2_with fail
  refine plan_last (by rfl) (by kernel_rfl) ?_
  have c2 := q1.cell 2
  have f2 := q1.frozen 2
  go_wp2_with fail
  clear c2 f2
  have q1 : Blk (World.setCell w2 ⟨w.heap.size, 2, none⟩ (.slice A n1 c)) w.heap.size 28 #[.int .u64 (q : Int), .int .i64 k, .slice A n1 c, .slice B m d, .int .u32 (s : Int), .int .u32 (o : Int)] := q1.set_ 2 (.slice A n1 c)
  have q2 := q2.far (p := ⟨w.heap.size, 2, none⟩) (by simp) (.slice A n1 c)
  have hbw := hbw.setCell (p := ⟨w.heap.size, 2, none⟩) (Nat.le_refl _) (.slice A n1 c)
  generalize World.setCell w2 ⟨w.heap.size, 2, none⟩ (.slice A n1 c) = w3 at *
  refine plan_calms (by simp [calmRow, need]; rfl) ?_
  go_wp2_with fail
  refine plan_last (by rfl) (by kernel_rfl) ?_
  have c3 := q1.cell 3
  have f3 := q1.frozen 3
  go_wp2_with fail
  clear c3 f3
  have q1 : Blk (World.setCell w3 ⟨w.heap.size, 3, none⟩ (.slice B m1 d)) w.heap.size 28 #[.int .u64 (q : Int), .int .i64 k, .slice A n1 c, .slice B m1 d, .int .u32 (s : Int), .int .u32 (o : Int)] := q1.set_ 3 (.slice B m1 d)
  have q2 := q2.far (p := ⟨w.heap.size, 3, none⟩) (by simp) (.slice B m1 d)
  have hbw := hbw.setCell (p := ⟨w.heap.size, 3, none⟩) (Nat.le_refl _) (.slice B m1 d)
  generalize World.setCell w3 ⟨w.heap.size, 3, none⟩ (.slice B m1 d) = w4 at *
  refine plan_end ?_
  have c0 := q1.cell 0
  have f0 := q1.frozen 0
  have d0 := q2.cell 0
  have g0 := q2.frozen 0
  have c1 := q1.cell 1
  have f1 := q1.frozen 1
  have d1 := q2.cell 1
  have g1 := q2.frozen 1
  have c2 := q1.cell 2
  have f2 := q1.frozen 2
  have d2 := q2.cell 2
  have g2 := q2.frozen 2
  have c3 := q1.cell 3
  have f3 := q1.frozen 3
  have d3 := q2.cell 3
  have g3 := q2.frozen 3
  have c4 := q1.cell 4
  have f4 := q1.frozen 4
  have d4 := q2.cell 4
  have g4 := q2.frozen 4
  have c5 := q1.cell 5
  have f5 := q1.frozen 5
  have d5 := q2.cell 5
  have g5 := q2.frozen 5
  go_wp2_with fail
  have hbe : Below w.heap.size w (World.setCell (World.setCell (World.setCell (World.setCell (World.setCell (World.setCell w4 ⟨w.heap.size + 1, 0, none⟩ (.int .u64 (q : Int))) ⟨w.heap.size + 1, 1, none⟩ (.int .i64 k)) ⟨w.heap.size + 1, 2, none⟩ (.slice A n1 c)) ⟨w.heap.size + 1, 3, none⟩ (.slice B m1 d)) ⟨w.heap.size + 1, 4, none⟩ (.int .u32 (s : Int))) ⟨w.heap.size + 1, 5, none⟩ (.int .u32 (o : Int))) := ((((((hbw.setCell (p := ⟨w.heap.size + 1, 0, none⟩) (by simp) (.int .u64 (q : Int))).setCell (p := ⟨w.heap.size + 1, 1, none⟩) (by simp) (.int .i64 k)).setCell (p := ⟨w.heap.size + 1, 2, none⟩) (by simp) (.slice A n1 c)).setCell (p := ⟨w.heap.size + 1, 3, none⟩) (by simp) (.slice B m1 d)).setCell (p := ⟨w.heap.size + 1, 4, none⟩) (by simp) (.int .u32 (s : Int))).setCell (p := ⟨w.heap.size + 1, 5, none⟩) (by simp) (.int .u32 (o : Int)))
  exact bodyPost_ret (results_cell1 rfl rfl (res_load (e := 28) (cs := #[.int .u64 (q : Int), .int .i64 k, .slice A n1 c, .slice B m1 d, .int .u32 (s : Int), .int .u32 (o : Int)]) ((((((q2.set_ 0 (.int .u64 (q : Int))).set_ 1 (.int .i64 k)).set_ 2 (.slice A n1 c)).set_ 3 (.slice B m1 d)).set_ 4 (.int .u32 (s : Int))).set_ 5 (.int .u32 (o : Int))) Tryd.underlying28 rfl (by kernel_rfl))) rfl (retRecV E1.out E2.out t1 t2 (RdO.low (ta.below hbe hB0) (Nat.le_trans hB0 hbe.size)) (RdO.low (tb.below hbe hB0) (Nat.le_trans hB0 hbe.size)) hbe)

set_option maxRecDepth 10000 in
set_option maxHeartbeats 4000000 in
theorem made_any (q : Nat) (k : Int) (a b : List UInt8) (A : Option Addr) (n c : Nat) (B : Option Addr) (m d : Nat) (s o : Nat) (w : World) (hnc : n ≤ c) (hmd : m ≤ d) (B0 : Nat) (hB0 : B0 ≤ w.heap.size) (ha : Rd w B0 1 A n (bcells a)) (hb : Rd w B0 1 B m (bcells b)) (hq : q < 18446744073709551616) (hs : s < 4294967296) (ho : o < 4294967296) :
    Calls Tryd.prog 20 #[recV q k (.slice A n c) (.slice B m d) s o] w (RetRecV (seqM q) (kindM k) (keyM a) (valM k b) (segM s) (offM s o) B0 w) := by
  have hla := ha.1
  have hlb := hb.1
  have hma := ha.2.1
  have hmb := hb.2.1
  unfold maxLen at hma hmb
  rw [bcells_len, Nat.mul_one] at hla hlb
  obtain ⟨n1, hn1⟩ : ∃ n1, n1 = min n 64 := ⟨_, rfl⟩
  obtain ⟨m1, hm1⟩ : ∃ m1, m1 = min m 1024 := ⟨_, rfl⟩
  have hM1 : min (n : Int) 64 = (n1 : Int) := by omega
  have hM2 : min (m : Int) 1024 = (m1 : Int) := by omega
  have ta := ha.btake (k := n1) (by omega)
  have tb := hb.btake (k := m1) (by omega)
  have t1 : n1 ≤ c := by omega
  have t2 : m1 ≤ d := by omega
  have t3 : (n1 : Int) ≤ (c : Int) := by omega
  have t4 : (m1 : Int) ≤ (d : Int) := by omega
  have q1 := (Blk.new w 28 #[.int .u64 ((seqM q : Nat) : Int), .int .i64 k, .slice A n c, .slice B m d, .int .u32 (s : Int), .int .u32 (o : Int)]).alloc (.cells #[.int .u64 0, .int .i64 0, .slice none 0 0, .slice none 0 0, .int .u32 0, .int .u32 0] 28)
  have q2 := Blk.newAt (w.alloc (.cells #[.int .u64 ((seqM q : Nat) : Int), .int .i64 k, .slice A n c, .slice B m d, .int .u32 (s : Int), .int .u32 (o : Int)] 28)) 28 #[.int .u64 0, .int .i64 0, .slice none 0 0, .slice none 0 0, .int .u32 0, .int .u32 0] (g := w.heap.size + 1) (by simp)
  have hbw := belowAlloc ((Below.refl w.heap.size w).alloc (Nat.le_refl _) (.cells #[.int .u64 ((seqM q : Nat) : Int), .int .i64 k, .slice A n c, .slice B m d, .int .u32 (s : Int), .int .u32 (o : Int)] 28)) (.cells #[.int .u64 0, .int .i64 0, .slice none 0 0, .slice none 0 0, .int .u32 0, .int .u32 0] 28)
  have hsq := Lib.hid (show (1 : Int) + (q : Int) % 1099511627776 = ((seqM q : Nat) : Int) by unfold seqM; omega)
  have hsg := and24_u32 s hs
  rw [show s % 16777216 = segM s from rfl] at hsg
  have hsl : segM s < 16777216 := by unfold segM; omega
  have hof : (16 : Int) + (o : Int) % 16777201 = ((16 + o % 16777201 : Nat) : Int) := by omega
  obtain ⟨of, hofe⟩ : ∃ of, of = 16 + o % 16777201 := ⟨_, rfl⟩
  rw [← hofe] at hof
  have hofl : of < 4294967296 := by omega
  have e3 : a.take n1 = a.take 64 := by rw [hn1, ← hla, Nat.min_comm, ← List.take_take, List.take_of_length_le (Nat.le_refl a.length)]
  have e4 : b.take m1 = b.take 1024 := by rw [hm1, ← hlb, Nat.min_comm, ← List.take_take, List.take_of_length_le (Nat.le_refl b.length)]
  have e5 : (a.take 64).length = n1 := by rw [List.length_take]; omega
  have e6 : (b.take 1024).length = m1 := by rw [List.length_take]; omega
  rw [e3] at ta
  rw [e4] at tb
  have hkey : n1 = 0 → keyM a = [7] := fun h => by unfold keyM; rw [if_pos (by omega)]
  have hkey2 : n1 ≠ 0 → keyM a = a.take 64 := fun h => by unfold keyM; rw [if_neg (by omega)]
  have hoff : segM s = 0 → offM s o = 0 := fun h => by unfold offM; rw [if_pos h]
  have hoff2 : segM s ≠ 0 → offM s o = of := fun h => by unfold offM; rw [if_neg h, hofe]
  have hv1 : k = 2 → valM k b = [] := fun h => by unfold valM; rw [if_pos h]
  have hv2 : k ≠ 2 → valM k b = b.take 1024 := fun h => by unfold valM; rw [if_neg h]
  have hk1 : k = 2 → kindM k = 2 := fun h => by unfold kindM; rw [if_pos h]
  have hk2 : k ≠ 2 → kindM k = 1 := fun h => by unfold kindM; rw [if_neg h]
  generalize segM s = sg at *
  generalize offM s o = off at *
  generalize keyM a = ka at *
  generalize valM k b = vb at *
  generalize kindM k = kd at *
  generalize seqM q = sq at *
  generalize a.take 64 = a6 at *
  generalize b.take 1024 = b6 at *
  have HK := Lib.hid (And.intro (And.intro hkey hkey2) (And.intro hoff hoff2))
  have HV := Lib.hid (And.intro (And.intro hv1 hv2) (And.intro hk1 hk2))
  have E5 := Lib.hid e5
  have E6 := Lib.hid e6
  have hsqo := hsq.out
  clear hkey hkey2 hoff hoff2 hv1 hv2 hk1 hk2 e3 e4 e5 e6 hn1 hm1 hofe hla hlb hsq
  unfold recV
  go_enter Tryd.func20, Tryd.ntmps20
  go_wp2_with fail
  clear hsqo
  generalize (w.alloc (.cells #[.int .u64 (sq : Int), .int .i64 k, .slice A n c, .slice B m d, .int .u32 (s : Int), .int .u32 (o : Int)] 28)).alloc (.cells #[.int .u64 0, .int .i64 0, .slice none 0 0, .slice none 0 0, .int .u32 0, .int .u32 0] 28) = w1 at *
  refine wp_region_plan (fun W => Blk W w.heap.size 28 #[.int .u64 (sq : Int), .int .i64 k, .slice A n c, .slice B m d, .int .u32 (s : Int), .int .u32 (o : Int)]) [.calms [0, 2, 7, 9], .read 1, .read 3, .calms [4, 5, 6], .read 8, .read 10, .calms [11, 12, 13, 14], .act 15, .calms [16], .act 17] (by kernel_rfl) (by rfl) (by kernel_rfl) (by kernel_rfl) q1 ?_
  have q1 : Blk w1.drew w.heap.size 28 #[.int .u64 (sq : Int), .int .i64 k, .slice A n c, .slice B m d, .int .u32 (s : Int), .int .u32 (o : Int)] := q1
  have q2 : Blk w1.drew (w.heap.size + 1) 28 #[.int .u64 0, .int .i64 0, .slice none 0 0, .slice none 0 0, .int .u32 0, .int .u32 0] := q2
  have hbw : Below w.heap.size w w1.drew := hbw.drew
  generalize w1.drew = w2 at *
  refine plan_calms (by simp [calmRow, need]; rfl) ?_
  go_wp2_with fail
  refine plan_read (by rfl) (.slice A n c) (by rfl) (fun W hW => exec_load rfl rfl (by kernel_rfl) (hW.cell 2)) ?_
  refine plan_read (by rfl) (.slice A n c) (by rfl) (fun W hW => exec_load rfl rfl (by kernel_rfl) (hW.cell 2)) ?_
  refine plan_calms (by simp [calmRow, need, chk]; rfl) ?_
  go_wp2_with fail
  refine plan_read (by rfl) (.slice B m d) (by rfl) (fun W hW => exec_load rfl rfl (by kernel_rfl) (hW.cell 3)) ?_
  refine plan_read (by rfl) (.slice B m d) (by rfl) (fun W hW => exec_load rfl rfl (by kernel_rfl) (hW.cell 3)) ?_
  refine plan_calms (by simp [calmRow, need, chk]; rfl) ?_
  go_wp2_with fail
  refine plan_last (by rfl) (by kernel_rfl) ?_
  have c2 := q1.cell 2
  have f2 := q1.frozen 2
  go_wp2_with fail
  clear c2 f2
  have q1 : Blk (World.setCell w2 ⟨w.heap.size, 2, none⟩ (.slice A n1 c)) w.heap.size 28 #[.int .u64 (sq : Int), .int .i64 k, .slice A n1 c, .slice B m d, .int .u32 (s : Int), .int .u32 (o : Int)] := q1.set_ 2 (.slice A n1 c)
  have q2 := q2.far (p := ⟨w.heap.size, 2, none⟩) (by simp) (.slice A n1 c)
  have hbw := hbw.setCell (p := ⟨w.heap.size, 2, none⟩) (Nat.le_refl _) (.slice A n1 c)
  generalize World.setCell w2 ⟨w.heap.size, 2, none⟩ (.slice A n1 c) = w3 at *
  refine plan_calms (by simp [calmRow, need]; rfl) ?_
  go_wp2_with fail
  refine plan_last (by rfl) (by kernel_rfl) ?_
  have c3 := q1.cell 3
  have f3 := q1.frozen 3
  go_wp2_with fail
  clear c3 f3
  have q1 : Blk (World.setCell w3 ⟨w.heap.size, 3, none⟩ (.slice B m1 d)) w.heap.size 28 #[.int .u64 (sq : Int), .int .i64 k, .slice A n1 c, .slice B m1 d, .int .u32 (s : Int), .int .u32 (o : Int)] := q1.set_ 3 (.slice B m1 d)
  have q2 := q2.far (p := ⟨w.heap.size, 3, none⟩) (by simp) (.slice B m1 d)
  have hbw := hbw.setCell (p := ⟨w.heap.size, 3, none⟩) (Nat.le_refl _) (.slice B m1 d)
  generalize World.setCell w3 ⟨w.heap.size, 3, none⟩ (.slice B m1 d) = w4 at *
  refine plan_end ?_
  have z1 := q1.lt
  have z2 := q2.lt
  by_cases hn0 : n1 = 0
  · have i0 : ((n1 : Int) == 0) = true := by simp [hn0]
    have c0 := q1.cell 0
    have f0 := q1.frozen 0
    have c1 := q1.cell 1
    have f1 := q1.frozen 1
    have c2 := q1.cell 2
    have f2 := q1.frozen 2
    have c3 := q1.cell 3
    have f3 := q1.frozen 3
    have c4 := q1.cell 4
    have f4 := q1.frozen 4
    have c5 := q1.cell 5
    have f5 := q1.frozen 5
    go_upto_region 5 with (fail)
    clear c0 f0 c1 f1 c2 f2 c3 f3 c4 f4 c5 f5
    have q1 : Blk (World.setCell w4 ⟨w.heap.size, 2, none⟩ (.slice (some ⟨w4.heap.size, 0, none⟩) 1 1)) (w.heap.size) 28 #[.int .u64 (sq : Int), .int .i64 k, .slice (some ⟨w4.heap.size, 0, none⟩) 1 1, .slice B m1 d, .int .u32 (s : Int), .int .u32 (o : Int)] := q1.set_ 2 (.slice (some ⟨w4.heap.size, 0, none⟩) 1 1)
    have q1 := q1.alloc (.cells #[.int .u8 7] 5)
    have q2 := (q2.far (p := ⟨w.heap.size, 2, none⟩) (by simp) (.slice (some ⟨w4.heap.size, 0, none⟩) 1 1)).alloc (.cells #[.int .u8 7] 5)
    have hbw := belowAlloc (hbw.setCell (p := ⟨w.heap.size, 2, none⟩) (Nat.le_refl _) (.slice (some ⟨w4.heap.size, 0, none⟩) 1 1)) (.cells #[.int .u8 7] 5)
    have rk := (Blk.newAt (World.setCell w4 ⟨w.heap.size, 2, none⟩ (.slice (some ⟨w4.heap.size, 0, none⟩) 1 1)) 5 #[.int .u8 7] (g := w4.heap.size) (by simp)).rdAt (n := 1) (size := 1) rfl (by unfold maxLen; omega)
    have rk : Rd ((World.setCell w4 ⟨w.heap.size, 2, none⟩ (.slice (some ⟨w4.heap.size, 0, none⟩) 1 1)).alloc (.cells #[.int .u8 7] 5)) _ 1 (some ⟨w4.heap.size, 0, none⟩) 1 (bcells [7]) := rk
    obtain ⟨gk, hgke⟩ : ∃ g, g = w4.heap.size := ⟨_, rfl⟩
    rw [← hgke] at q1 q2 hbw rk z1 z2 ⊢
    have zk : gk < ((World.setCell w4 ⟨w.heap.size, 2, none⟩ (.slice (some ⟨gk, 0, none⟩) 1 1)).alloc (.cells #[.int .u8 7] 5)).heap.size := by simp; omega
    have hgk : gk ≠ w.heap.size := by omega
    have bk : w.heap.size ≤ gk := by omega
    have hgk2 : gk ≠ w.heap.size + 1 := by omega
    clear hgke
    generalize (World.setCell w4 ⟨w.heap.size, 2, none⟩ (.slice (some ⟨gk, 0, none⟩) 1 1)).alloc (.cells #[.int .u8 7] 5) = y5 at *
    by_cases hk : k = 2
    · subst hk
      have c0 := q1.cell 0
      have f0 := q1.frozen 0
      have c1 := q1.cell 1
      have f1 := q1.frozen 1
      have c2 := q1.cell 2
      have f2 := q1.frozen 2
      have c3 := q1.cell 3
      have f3 := q1.frozen 3
      have c4 := q1.cell 4
      have f4 := q1.frozen 4
      have c5 := q1.cell 5
      have f5 := q1.frozen 5
      go_upto_region 7 with (fail)
      clear c0 f0 c1 f1 c2 f2 c3 f3 c4 f4 c5 f5
      have c0 := q1.cell 0
      have f0 := q1.frozen 0
      have c1 := q1.cell 1
      have f1 := q1.frozen 1
      have c2 := q1.cell 2
      have f2 := q1.frozen 2
      have c3 := q1.cell 3
      have f3 := q1.frozen 3
      have c4 := q1.cell 4
      have f4 := q1.frozen 4
      have c5 := q1.cell 5
      have f5 := q1.frozen 5
      go_upto_region 9 with (fail)
      clear c0 f0 c1 f1 c2 f2 c3 f3 c4 f4 c5 f5
      have q1 : Blk (World.setCell y5 ⟨w.heap.size, 3, none⟩ (.slice none 0 0)) (w.heap.size) 28 #[.int .u64 (sq : Int), .int .i64 2, .slice (some ⟨gk, 0, none⟩) 1 1, .slice none 0 0, .int .u32 (s : Int), .int .u32 (o : Int)] := q1.set_ 3 (.slice none 0 0)
      have q2 := q2.far (p := ⟨w.heap.size, 3, none⟩) (by simp) (.slice none 0 0)
      have hbw := hbw.setCell (p := ⟨w.heap.size, 3, none⟩) (Nat.le_refl _) (.slice none 0 0)
      have rk := rd_set rk (p := ⟨w.heap.size, 3, none⟩) (.slice none 0 0) hgk
      have zk : gk < ((World.setCell y5 ⟨w.heap.size, 3, none⟩ (.slice none 0 0))).heap.size := by simpa using zk
      generalize (World.setCell y5 ⟨w.heap.size, 3, none⟩ (.slice none 0 0)) = y11 at *
      have hsgo := hsg
      have c0 := q1.cell 0
      have f0 := q1.frozen 0
      have c1 := q1.cell 1
      have f1 := q1.frozen 1
      have c2 := q1.cell 2
      have f2 := q1.frozen 2
      have c3 := q1.cell 3
      have f3 := q1.frozen 3
      have c4 := q1.cell 4
      have f4 := q1.frozen 4
      have c5 := q1.cell 5
      have f5 := q1.frozen 5
      go_upto_region 10 with (fail)
      clear c0 f0 c1 f1 c2 f2 c3 f3 c4 f4 c5 f5
      clear hsgo
      have q1 : Blk (World.setCell y11 ⟨w.heap.size, 4, none⟩ (.int .u32 (sg : Int))) (w.heap.size) 28 #[.int .u64 (sq : Int), .int .i64 2, .slice (some ⟨gk, 0, none⟩) 1 1, .slice none 0 0, .int .u32 (sg : Int), .int .u32 (o : Int)] := q1.set_ 4 (.int .u32 (sg : Int))
      have q2 := q2.far (p := ⟨w.heap.size, 4, none⟩) (by simp) (.int .u32 (sg : Int))
      have hbw := hbw.setCell (p := ⟨w.heap.size, 4, none⟩) (Nat.le_refl _) (.int .u32 (sg : Int))
      have rk := rd_set rk (p := ⟨w.heap.size, 4, none⟩) (.int .u32 (sg : Int)) hgk
      have zk : gk < ((World.setCell y11 ⟨w.heap.size, 4, none⟩ (.int .u32 (sg : Int)))).heap.size := by simpa using zk
      generalize (World.setCell y11 ⟨w.heap.size, 4, none⟩ (.int .u32 (sg : Int))) = y12 at *
      have c0 := q1.cell 0
      have f0 := q1.frozen 0
      have c1 := q1.cell 1
      have f1 := q1.frozen 1
      have c2 := q1.cell 2
      have f2 := q1.frozen 2
      have c3 := q1.cell 3
      have f3 := q1.frozen 3
      have c4 := q1.cell 4
      have f4 := q1.frozen 4
      have c5 := q1.cell 5
      have f5 := q1.frozen 5
      go_upto_region 11 with (fail)
      clear c0 f0 c1 f1 c2 f2 c3 f3 c4 f4 c5 f5
      have q1 : Blk (World.setCell y12 ⟨w.heap.size, 5, none⟩ (.int .u32 (of : Int))) (w.heap.size) 28 #[.int .u64 (sq : Int), .int .i64 2, .slice (some ⟨gk, 0, none⟩) 1 1, .slice none 0 0, .int .u32 (sg : Int), .int .u32 (of : Int)] := q1.set_ 5 (.int .u32 (of : Int))
      have q2 := q2.far (p := ⟨w.heap.size, 5, none⟩) (by simp) (.int .u32 (of : Int))
      have hbw := hbw.setCell (p := ⟨w.heap.size, 5, none⟩) (Nat.le_refl _) (.int .u32 (of : Int))
      have rk := rd_set rk (p := ⟨w.heap.size, 5, none⟩) (.int .u32 (of : Int)) hgk
      have zk : gk < ((World.setCell y12 ⟨w.heap.size, 5, none⟩ (.int .u32 (of : Int)))).heap.size := by simpa using zk
      generalize (World.setCell y12 ⟨w.heap.size, 5, none⟩ (.int .u32 (of : Int))) = y13 at *
      by_cases hg : sg = 0
      · have i4 : ((sg : Int) == 0) = true := by simp [hg]
        have hgz : (sg : Int) = 0 := by rw [hg]; rfl
        rw [hgz] at q1
        have c0 := q1.cell 0
        have f0 := q1.frozen 0
        have c1 := q1.cell 1
        have f1 := q1.frozen 1
        have c2 := q1.cell 2
        have f2 := q1.frozen 2
        have c3 := q1.cell 3
        have f3 := q1.frozen 3
        have c4 := q1.cell 4
        have f4 := q1.frozen 4
        have c5 := q1.cell 5
        have f5 := q1.frozen 5
        go_upto_region 13 with (fail)
        clear c0 f0 c1 f1 c2 f2 c3 f3 c4 f4 c5 f5
        have q1 : Blk (World.setCell (World.setCell y13 ⟨w.heap.size, 4, none⟩ (.int .u32 0)) ⟨w.heap.size, 5, none⟩ (.int .u32 0)) (w.heap.size) 28 #[.int .u64 (sq : Int), .int .i64 2, .slice (some ⟨gk, 0, none⟩) 1 1, .slice none 0 0, .int .u32 0, .int .u32 0] := (q1.set_ 4 (.int .u32 0)).set_ 5 (.int .u32 0)
        have q2 := (q2.far (p := ⟨w.heap.size, 4, none⟩) (by simp) (.int .u32 0)).far (p := ⟨w.heap.size, 5, none⟩) (by simp) (.int .u32 0)
        have hbw := (hbw.setCell (p := ⟨w.heap.size, 4, none⟩) (Nat.le_refl _) (.int .u32 0)).setCell (p := ⟨w.heap.size, 5, none⟩) (Nat.le_refl _) (.int .u32 0)
        have rk := rd_set (rd_set rk (p := ⟨w.heap.size, 4, none⟩) (.int .u32 0) hgk) (p := ⟨w.heap.size, 5, none⟩) (.int .u32 0) hgk
        have zk : gk < (World.setCell (World.setCell y13 ⟨w.heap.size, 4, none⟩ (.int .u32 0)) ⟨w.heap.size, 5, none⟩ (.int .u32 0)).heap.size := by simpa using zk
        generalize World.setCell (World.setCell y13 ⟨w.heap.size, 4, none⟩ (.int .u32 0)) ⟨w.heap.size, 5, none⟩ (.int .u32 0) = y14 at *
        have c0 := q1.cell 0
        have f0 := q1.frozen 0
        have c1 := q1.cell 1
        have f1 := q1.frozen 1
        have c2 := q1.cell 2
        have f2 := q1.frozen 2
        have c3 := q1.cell 3
        have f3 := q1.frozen 3
        have c4 := q1.cell 4
        have f4 := q1.frozen 4
        have c5 := q1.cell 5
        have f5 := q1.frozen 5
        have d0 := q2.cell 0
        have g0 := q2.frozen 0
        have d1 := q2.cell 1
        have g1 := q2.frozen 1
        have d2 := q2.cell 2
        have g2 := q2.frozen 2
        have d3 := q2.cell 3
        have g3 := q2.frozen 3
        have d4 := q2.cell 4
        have g4 := q2.frozen 4
        have d5 := q2.cell 5
        have g5 := q2.frozen 5
        go_wp2_with fail
        have hbe : Below w.heap.size w (World.setCell (World.setCell (World.setCell (World.setCell (World.setCell (World.setCell y14 ⟨w.heap.size + 1, 0, none⟩ (.int .u64 (sq : Int))) ⟨w.heap.size + 1, 1, none⟩ (.int .i64 2)) ⟨w.heap.size + 1, 2, none⟩ (.slice (some ⟨gk, 0, none⟩) 1 1)) ⟨w.heap.size + 1, 3, none⟩ (.slice none 0 0)) ⟨w.heap.size + 1, 4, none⟩ (.int .u32 0)) ⟨w.heap.size + 1, 5, none⟩ (.int .u32 0)) := ((((((hbw.setCell (p := ⟨w.heap.size + 1, 0, none⟩) (by simp) (.int .u64 (sq : Int))).setCell (p := ⟨w.heap.size + 1, 1, none⟩) (by simp) (.int .i64 2)).setCell (p := ⟨w.heap.size + 1, 2, none⟩) (by simp) (.slice (some ⟨gk, 0, none⟩) 1 1)).setCell (p := ⟨w.heap.size + 1, 3, none⟩) (by simp) (.slice none 0 0)).setCell (p := ⟨w.heap.size + 1, 4, none⟩) (by simp) (.int .u32 0)).setCell (p := ⟨w.heap.size + 1, 5, none⟩) (by simp) (.int .u32 0))
        have rk : Rd (World.setCell (World.setCell (World.setCell (World.setCell (World.setCell (World.setCell y14 ⟨w.heap.size + 1, 0, none⟩ (.int .u64 (sq : Int))) ⟨w.heap.size + 1, 1, none⟩ (.int .i64 2)) ⟨w.heap.size + 1, 2, none⟩ (.slice (some ⟨gk, 0, none⟩) 1 1)) ⟨w.heap.size + 1, 3, none⟩ (.slice none 0 0)) ⟨w.heap.size + 1, 4, none⟩ (.int .u32 0)) ⟨w.heap.size + 1, 5, none⟩ (.int .u32 0)) _ 1 _ 1 (bcells [7]) := (rd_set (rd_set (rd_set (rd_set (rd_set (rd_set rk (p := ⟨w.heap.size + 1, 0, none⟩) (.int .u64 (sq : Int)) hgk2) (p := ⟨w.heap.size + 1, 1, none⟩) (.int .i64 2) hgk2) (p := ⟨w.heap.size + 1, 2, none⟩) (.slice (some ⟨gk, 0, none⟩) 1 1) hgk2) (p := ⟨w.heap.size + 1, 3, none⟩) (.slice none 0 0) hgk2) (p := ⟨w.heap.size + 1, 4, none⟩) (.int .u32 0) hgk2) (p := ⟨w.heap.size + 1, 5, none⟩) (.int .u32 0) hgk2)
        have rk := rk.more (B' := ((World.setCell (World.setCell (World.setCell (World.setCell (World.setCell (World.setCell y14 ⟨w.heap.size + 1, 0, none⟩ (.int .u64 (sq : Int))) ⟨w.heap.size + 1, 1, none⟩ (.int .i64 2)) ⟨w.heap.size + 1, 2, none⟩ (.slice (some ⟨gk, 0, none⟩) 1 1)) ⟨w.heap.size + 1, 3, none⟩ (.slice none 0 0)) ⟨w.heap.size + 1, 4, none⟩ (.int .u32 0)) ⟨w.heap.size + 1, 5, none⟩ (.int .u32 0))).heap.size) (by simp; omega)
        have ekd : (kd : Int) = 2 := by rw [HV.out.2.1 (by simp)]; rfl
        have eof : (off : Int) = 0 := by rw [HK.out.2.1 hg]; rfl
        skip
        refine bodyPost_ret (results_cell1 rfl rfl (res_load (e := 28) (cs := #[.int .u64 (sq : Int), .int .i64 2, .slice (some ⟨gk, 0, none⟩) 1 1, .slice none 0 0, .int .u32 0, .int .u32 0]) ((((((q2.set_ 0 (.int .u64 (sq : Int))).set_ 1 (.int .i64 2)).set_ 2 (.slice (some ⟨gk, 0, none⟩) 1 1)).set_ 3 (.slice none 0 0)).set_ 4 (.int .u32 0)).set_ 5 (.int .u32 0)) Tryd.underlying28 rfl (by kernel_rfl))) rfl ?_
        have hfin := retRecV (B0 := B0) (q := sq) (k := (kd : Int)) (a := ka) (b := vb) (s := sg) (o := off) (w := w) (B := none) (by rw [HK.out.1.1 hn0]; rfl) (by rw [HV.out.1.1 (by simp)]; rfl) (Nat.le_refl 1) (Nat.le_refl 0) (by rw [HK.out.1.1 hn0]; exact RdO.new rk bk) (by rw [HV.out.1.1 (by simp)]; exact RdO.nil_ _ _ _ none) hbe
        simpa [ekd, eof, hg] using hfin
      · have i4 : ((sg : Int) == 0) = false := by simp; omega
        have c0 := q1.cell 0
        have f0 := q1.frozen 0
        have c1 := q1.cell 1
        have f1 := q1.frozen 1
        have c2 := q1.cell 2
        have f2 := q1.frozen 2
        have c3 := q1.cell 3
        have f3 := q1.frozen 3
        have c4 := q1.cell 4
        have f4 := q1.frozen 4
        have c5 := q1.cell 5
        have f5 := q1.frozen 5
        go_upto_region 13 with (fail)
        clear c0 f0 c1 f1 c2 f2 c3 f3 c4 f4 c5 f5
        have c0 := q1.cell 0
        have f0 := q1.frozen 0
        have c1 := q1.cell 1
        have f1 := q1.frozen 1
        have c2 := q1.cell 2
        have f2 := q1.frozen 2
        have c3 := q1.cell 3
        have f3 := q1.frozen 3
        have c4 := q1.cell 4
        have f4 := q1.frozen 4
        have c5 := q1.cell 5
        have f5 := q1.frozen 5
        have d0 := q2.cell 0
        have g0 := q2.frozen 0
        have d1 := q2.cell 1
        have g1 := q2.frozen 1
        have d2 := q2.cell 2
        have g2 := q2.frozen 2
        have d3 := q2.cell 3
        have g3 := q2.frozen 3
        have d4 := q2.cell 4
        have g4 := q2.frozen 4
        have d5 := q2.cell 5
        have g5 := q2.frozen 5
        go_wp2_with fail
        have hbe : Below w.heap.size w (World.setCell (World.setCell (World.setCell (World.setCell (World.setCell (World.setCell y13 ⟨w.heap.size + 1, 0, none⟩ (.int .u64 (sq : Int))) ⟨w.heap.size + 1, 1, none⟩ (.int .i64 2)) ⟨w.heap.size + 1, 2, none⟩ (.slice (some ⟨gk, 0, none⟩) 1 1)) ⟨w.heap.size + 1, 3, none⟩ (.slice none 0 0)) ⟨w.heap.size + 1, 4, none⟩ (.int .u32 (sg : Int))) ⟨w.heap.size + 1, 5, none⟩ (.int .u32 (of : Int))) := ((((((hbw.setCell (p := ⟨w.heap.size + 1, 0, none⟩) (by simp) (.int .u64 (sq : Int))).setCell (p := ⟨w.heap.size + 1, 1, none⟩) (by simp) (.int .i64 2)).setCell (p := ⟨w.heap.size + 1, 2, none⟩) (by simp) (.slice (some ⟨gk, 0, none⟩) 1 1)).setCell (p := ⟨w.heap.size + 1, 3, none⟩) (by simp) (.slice none 0 0)).setCell (p := ⟨w.heap.size + 1, 4, none⟩) (by simp) (.int .u32 (sg : Int))).setCell (p := ⟨w.heap.size + 1, 5, none⟩) (by simp) (.int .u32 (of : Int)))
        have rk : Rd (World.setCell (World.setCell (World.setCell (World.setCell (World.setCell (World.setCell y13 ⟨w.heap.size + 1, 0, none⟩ (.int .u64 (sq : Int))) ⟨w.heap.size + 1, 1, none⟩ (.int .i64 2)) ⟨w.heap.size + 1, 2, none⟩ (.slice (some ⟨gk, 0, none⟩) 1 1)) ⟨w.heap.size + 1, 3, none⟩ (.slice none 0 0)) ⟨w.heap.size + 1, 4, none⟩ (.int .u32 (sg : Int))) ⟨w.heap.size + 1, 5, none⟩ (.int .u32 (of : Int))) _ 1 _ 1 (bcells [7]) := (rd_set (rd_set (rd_set (rd_set (rd_set (rd_set rk (p := ⟨w.heap.size + 1, 0, none⟩) (.int .u64 (sq : Int)) hgk2) (p := ⟨w.heap.size + 1, 1, none⟩) (.int .i64 2) hgk2) (p := ⟨w.heap.size + 1, 2, none⟩) (.slice (some ⟨gk, 0, none⟩) 1 1) hgk2) (p := ⟨w.heap.size + 1, 3, none⟩) (.slice none 0 0) hgk2) (p := ⟨w.heap.size + 1, 4, none⟩) (.int .u32 (sg : Int)) hgk2) (p := ⟨w.heap.size + 1, 5, none⟩) (.int .u32 (of : Int)) hgk2)
        have rk := rk.more (B' := ((World.setCell (World.setCell (World.setCell (World.setCell (World.setCell (World.setCell y13 ⟨w.heap.size + 1, 0, none⟩ (.int .u64 (sq : Int))) ⟨w.heap.size + 1, 1, none⟩ (.int .i64 2)) ⟨w.heap.size + 1, 2, none⟩ (.slice (some ⟨gk, 0, none⟩) 1 1)) ⟨w.heap.size + 1, 3, none⟩ (.slice none 0 0)) ⟨w.heap.size + 1, 4, none⟩ (.int .u32 (sg : Int))) ⟨w.heap.size + 1, 5, none⟩ (.int .u32 (of : Int)))).heap.size) (by simp; omega)
        have ekd : (kd : Int) = 2 := by rw [HV.out.2.1 (by simp)]; rfl
        have eof : (off : Int) = (of : Int) := by rw [HK.out.2.2 hg]
        skip
        refine bodyPost_ret (results_cell1 rfl rfl (res_load (e := 28) (cs := #[.int .u64 (sq : Int), .int .i64 2, .slice (some ⟨gk, 0, none⟩) 1 1, .slice none 0 0, .int .u32 (sg : Int), .int .u32 (of : Int)]) ((((((q2.set_ 0 (.int .u64 (sq : Int))).set_ 1 (.int .i64 2)).set_ 2 (.slice (some ⟨gk, 0, none⟩) 1 1)).set_ 3 (.slice none 0 0)).set_ 4 (.int .u32 (sg : Int))).set_ 5 (.int .u32 (of : Int))) Tryd.underlying28 rfl (by kernel_rfl))) rfl ?_
        have hfin := retRecV (B0 := B0) (q := sq) (k := (kd : Int)) (a := ka) (b := vb) (s := sg) (o := off) (w := w) (B := none) (by rw [HK.out.1.1 hn0]; rfl) (by rw [HV.out.1.1 (by simp)]; rfl) (Nat.le_refl 1) (Nat.le_refl 0) (by rw [HK.out.1.1 hn0]; exact RdO.new rk bk) (by rw [HV.out.1.1 (by simp)]; exact RdO.nil_ _ _ _ none) hbe
        simpa [ekd, eof] using hfin
    · have i2 : (k != 2) = true := by simpa using hk
      have i3 : (k == 2) = false := by simpa using hk
      have c0 := q1.cell 0
      have f0 := q1.frozen 0
      have c1 := q1.cell 1
      have f1 := q1.frozen 1
      have c2 := q1.cell 2
      have f2 := q1.frozen 2
      have c3 := q1.cell 3
      have f3 := q1.frozen 3
      have c4 := q1.cell 4
      have f4 := q1.frozen 4
      have c5 := q1.cell 5
      have f5 := q1.frozen 5
      go_upto_region 7 with (fail)
      clear c0 f0 c1 f1 c2 f2 c3 f3 c4 f4 c5 f5
      have q1 : Blk (World.setCell y5 ⟨w.heap.size, 1, none⟩ (.int .i64 1)) (w.heap.size) 28 #[.int .u64 (sq : Int), .int .i64 1, .slice (some ⟨gk, 0, none⟩) 1 1, .slice B m1 d, .int .u32 (s : Int), .int .u32 (o : Int)] := q1.set_ 1 (.int .i64 1)
      have q2 := q2.far (p := ⟨w.heap.size, 1, none⟩) (by simp) (.int .i64 1)
      have hbw := hbw.setCell (p := ⟨w.heap.size, 1, none⟩) (Nat.le_refl _) (.int .i64 1)
      have rk := rd_set rk (p := ⟨w.heap.size, 1, none⟩) (.int .i64 1) hgk
      have zk : gk < ((World.setCell y5 ⟨w.heap.size, 1, none⟩ (.int .i64 1))).heap.size := by simpa using zk
      generalize (World.setCell y5 ⟨w.heap.size, 1, none⟩ (.int .i64 1)) = y15 at *
      have c0 := q1.cell 0
      have f0 := q1.frozen 0
      have c1 := q1.cell 1
      have f1 := q1.frozen 1
      have c2 := q1.cell 2
      have f2 := q1.frozen 2
      have c3 := q1.cell 3
      have f3 := q1.frozen 3
      have c4 := q1.cell 4
      have f4 := q1.frozen 4
      have c5 := q1.cell 5
      have f5 := q1.frozen 5
      go_upto_region 9 with (fail)
      clear c0 f0 c1 f1 c2 f2 c3 f3 c4 f4 c5 f5
      have hsgo := hsg
      have c0 := q1.cell 0
      have f0 := q1.frozen 0
      have c1 := q1.cell 1
      have f1 := q1.frozen 1
      have c2 := q1.cell 2
      have f2 := q1.frozen 2
      have c3 := q1.cell 3
      have f3 := q1.frozen 3
      have c4 := q1.cell 4
      have f4 := q1.frozen 4
      have c5 := q1.cell 5
      have f5 := q1.frozen 5
      go_upto_region 10 with (fail)
      clear c0 f0 c1 f1 c2 f2 c3 f3 c4 f4 c5 f5
      clear hsgo
      have q1 : Blk (World.setCell y15 ⟨w.heap.size, 4, none⟩ (.int .u32 (sg : Int))) (w.heap.size) 28 #[.int .u64 (sq : Int), .int .i64 1, .slice (some ⟨gk, 0, none⟩) 1 1, .slice B m1 d, .int .u32 (sg : Int), .int .u32 (o : Int)] := q1.set_ 4 (.int .u32 (sg : Int))
      have q2 := q2.far (p := ⟨w.heap.size, 4, none⟩) (by simp) (.int .u32 (sg : Int))
      have hbw := hbw.setCell (p := ⟨w.heap.size, 4, none⟩) (Nat.le_refl _) (.int .u32 (sg : Int))
      have rk := rd_set rk (p := ⟨w.heap.size, 4, none⟩) (.int .u32 (sg : Int)) hgk
      have zk : gk < ((World.setCell y15 ⟨w.heap.size, 4, none⟩ (.int .u32 (sg : Int)))).heap.size := by simpa using zk
      generalize (World.setCell y15 ⟨w.heap.size, 4, none⟩ (.int .u32 (sg : Int))) = y16 at *
      have c0 := q1.cell 0
      have f0 := q1.frozen 0
      have c1 := q1.cell 1
      have f1 := q1.frozen 1
      have c2 := q1.cell 2
      have f2 := q1.frozen 2
      have c3 := q1.cell 3
      have f3 := q1.frozen 3
      have c4 := q1.cell 4
      have f4 := q1.frozen 4
      have c5 := q1.cell 5
      have f5 := q1.frozen 5
      go_upto_region 11 with (fail)
      clear c0 f0 c1 f1 c2 f2 c3 f3 c4 f4 c5 f5
      have q1 : Blk (World.setCell y16 ⟨w.heap.size, 5, none⟩ (.int .u32 (of : Int))) (w.heap.size) 28 #[.int .u64 (sq : Int), .int .i64 1, .slice (some ⟨gk, 0, none⟩) 1 1, .slice B m1 d, .int .u32 (sg : Int), .int .u32 (of : Int)] := q1.set_ 5 (.int .u32 (of : Int))
      have q2 := q2.far (p := ⟨w.heap.size, 5, none⟩) (by simp) (.int .u32 (of : Int))
      have hbw := hbw.setCell (p := ⟨w.heap.size, 5, none⟩) (Nat.le_refl _) (.int .u32 (of : Int))
      have rk := rd_set rk (p := ⟨w.heap.size, 5, none⟩) (.int .u32 (of : Int)) hgk
      have zk : gk < ((World.setCell y16 ⟨w.heap.size, 5, none⟩ (.int .u32 (of : Int)))).heap.size := by simpa using zk
      generalize (World.setCell y16 ⟨w.heap.size, 5, none⟩ (.int .u32 (of : Int))) = y17 at *
      by_cases hg : sg = 0
      · have i4 : ((sg : Int) == 0) = true := by simp [hg]
        have hgz : (sg : Int) = 0 := by rw [hg]; rfl
        rw [hgz] at q1
        have c0 := q1.cell 0
        have f0 := q1.frozen 0
        have c1 := q1.cell 1
        have f1 := q1.frozen 1
        have c2 := q1.cell 2
        have f2 := q1.frozen 2
        have c3 := q1.cell 3
        have f3 := q1.frozen 3
        have c4 := q1.cell 4
        have f4 := q1.frozen 4
        have c5 := q1.cell 5
        have f5 := q1.frozen 5
        go_upto_region 13 with (fail)
        clear c0 f0 c1 f1 c2 f2 c3 f3 c4 f4 c5 f5
        have q1 : Blk (World.setCell (World.setCell y17 ⟨w.heap.size, 4, none⟩ (.int .u32 0)) ⟨w.heap.size, 5, none⟩ (.int .u32 0)) (w.heap.size) 28 #[.int .u64 (sq : Int), .int .i64 1, .slice (some ⟨gk, 0, none⟩) 1 1, .slice B m1 d, .int .u32 0, .int .u32 0] := (q1.set_ 4 (.int .u32 0)).set_ 5 (.int .u32 0)
        have q2 := (q2.far (p := ⟨w.heap.size, 4, none⟩) (by simp) (.int .u32 0)).far (p := ⟨w.heap.size, 5, none⟩) (by simp) (.int .u32 0)
        have hbw := (hbw.setCell (p := ⟨w.heap.size, 4, none⟩) (Nat.le_refl _) (.int .u32 0)).setCell (p := ⟨w.heap.size, 5, none⟩) (Nat.le_refl _) (.int .u32 0)
        have rk := rd_set (rd_set rk (p := ⟨w.heap.size, 4, none⟩) (.int .u32 0) hgk) (p := ⟨w.heap.size, 5, none⟩) (.int .u32 0) hgk
        have zk : gk < (World.setCell (World.setCell y17 ⟨w.heap.size, 4, none⟩ (.int .u32 0)) ⟨w.heap.size, 5, none⟩ (.int .u32 0)).heap.size := by simpa using zk
        generalize World.setCell (World.setCell y17 ⟨w.heap.size, 4, none⟩ (.int .u32 0)) ⟨w.heap.size, 5, none⟩ (.int .u32 0) = y18 at *
        have c0 := q1.cell 0
        have f0 := q1.frozen 0
        have c1 := q1.cell 1
        have f1 := q1.frozen 1
        have c2 := q1.cell 2
        have f2 := q1.frozen 2
        have c3 := q1.cell 3
        have f3 := q1.frozen 3
        have c4 := q1.cell 4
        have f4 := q1.frozen 4
        have c5 := q1.cell 5
        have f5 := q1.frozen 5
        have d0 := q2.cell 0
        have g0 := q2.frozen 0
        have d1 := q2.cell 1
        have g1 := q2.frozen 1
        have d2 := q2.cell 2
        have g2 := q2.frozen 2
        have d3 := q2.cell 3
        have g3 := q2.frozen 3
        have d4 := q2.cell 4
        have g4 := q2.frozen 4
        have d5 := q2.cell 5
        have g5 := q2.frozen 5
        go_wp2_with fail
        have hbe : Below w.heap.size w (World.setCell (World.setCell (World.setCell (World.setCell (World.setCell (World.setCell y18 ⟨w.heap.size + 1, 0, none⟩ (.int .u64 (sq : Int))) ⟨w.heap.size + 1, 1, none⟩ (.int .i64 1)) ⟨w.heap.size + 1, 2, none⟩ (.slice (some ⟨gk, 0, none⟩) 1 1)) ⟨w.heap.size + 1, 3, none⟩ (.slice B m1 d)) ⟨w.heap.size + 1, 4, none⟩ (.int .u32 0)) ⟨w.heap.size + 1, 5, none⟩ (.int .u32 0)) := ((((((hbw.setCell (p := ⟨w.heap.size + 1, 0, none⟩) (by simp) (.int .u64 (sq : Int))).setCell (p := ⟨w.heap.size + 1, 1, none⟩) (by simp) (.int .i64 1)).setCell (p := ⟨w.heap.size + 1, 2, none⟩) (by simp) (.slice (some ⟨gk, 0, none⟩) 1 1)).setCell (p := ⟨w.heap.size + 1, 3, none⟩) (by simp) (.slice B m1 d)).setCell (p := ⟨w.heap.size + 1, 4, none⟩) (by simp) (.int .u32 0)).setCell (p := ⟨w.heap.size + 1, 5, none⟩) (by simp) (.int .u32 0))
        have rk : Rd (World.setCell (World.setCell (World.setCell (World.setCell (World.setCell (World.setCell y18 ⟨w.heap.size + 1, 0, none⟩ (.int .u64 (sq : Int))) ⟨w.heap.size + 1, 1, none⟩ (.int .i64 1)) ⟨w.heap.size + 1, 2, none⟩ (.slice (some ⟨gk, 0, none⟩) 1 1)) ⟨w.heap.size + 1, 3, none⟩ (.slice B m1 d)) ⟨w.heap.size + 1, 4, none⟩ (.int .u32 0)) ⟨w.heap.size + 1, 5, none⟩ (.int .u32 0)) _ 1 _ 1 (bcells [7]) := (rd_set (rd_set (rd_set (rd_set (rd_set (rd_set rk (p := ⟨w.heap.size + 1, 0, none⟩) (.int .u64 (sq : Int)) hgk2) (p := ⟨w.heap.size + 1, 1, none⟩) (.int .i64 1) hgk2) (p := ⟨w.heap.size + 1, 2, none⟩) (.slice (some ⟨gk, 0, none⟩) 1 1) hgk2) (p := ⟨w.heap.size + 1, 3, none⟩) (.slice B m1 d) hgk2) (p := ⟨w.heap.size + 1, 4, none⟩) (.int .u32 0) hgk2) (p := ⟨w.heap.size + 1, 5, none⟩) (.int .u32 0) hgk2)
        have rk := rk.more (B' := ((World.setCell (World.setCell (World.setCell (World.setCell (World.setCell (World.setCell y18 ⟨w.heap.size + 1, 0, none⟩ (.int .u64 (sq : Int))) ⟨w.heap.size + 1, 1, none⟩ (.int .i64 1)) ⟨w.heap.size + 1, 2, none⟩ (.slice (some ⟨gk, 0, none⟩) 1 1)) ⟨w.heap.size + 1, 3, none⟩ (.slice B m1 d)) ⟨w.heap.size + 1, 4, none⟩ (.int .u32 0)) ⟨w.heap.size + 1, 5, none⟩ (.int .u32 0))).heap.size) (by simp; omega)
        have ekd : (kd : Int) = 1 := by rw [HV.out.2.2 hk]; rfl
        have eof : (off : Int) = 0 := by rw [HK.out.2.1 hg]; rfl
        skip
        refine bodyPost_ret (results_cell1 rfl rfl (res_load (e := 28) (cs := #[.int .u64 (sq : Int), .int .i64 1, .slice (some ⟨gk, 0, none⟩) 1 1, .slice B m1 d, .int .u32 0, .int .u32 0]) ((((((q2.set_ 0 (.int .u64 (sq : Int))).set_ 1 (.int .i64 1)).set_ 2 (.slice (some ⟨gk, 0, none⟩) 1 1)).set_ 3 (.slice B m1 d)).set_ 4 (.int .u32 0)).set_ 5 (.int .u32 0)) Tryd.underlying28 rfl (by kernel_rfl))) rfl ?_
        have hfin := retRecV (B0 := B0) (q := sq) (k := (kd : Int)) (a := ka) (b := vb) (s := sg) (o := off) (w := w) (by rw [HK.out.1.1 hn0]; rfl) (by rw [HV.out.1.2 hk]; exact E6.out) (Nat.le_refl 1) t2 (by rw [HK.out.1.1 hn0]; exact RdO.new rk bk) (by rw [HV.out.1.2 hk]; exact RdO.low (tb.below hbe hB0) (Nat.le_trans hB0 hbe.size)) hbe
        simpa [ekd, eof, hg] using hfin
      · have i4 : ((sg : Int) == 0) = false := by simp; omega
        have c0 := q1.cell 0
        have f0 := q1.frozen 0
        have c1 := q1.cell 1
        have f1 := q1.frozen 1
        have c2 := q1.cell 2
        have f2 := q1.frozen 2
        have c3 := q1.cell 3
        have f3 := q1.frozen 3
        have c4 := q1.cell 4
        have f4 := q1.frozen 4
        have c5 := q1.cell 5
        have f5 := q1.frozen 5
        go_upto_region 13 with (fail)
        clear c0 f0 c1 f1 c2 f2 c3 f3 c4 f4 c5 f5
        have c0 := q1.cell 0
        have f0 := q1.frozen 0
        have c1 := q1.cell 1
        have f1 := q1.frozen 1
        have c2 := q1.cell 2
        have f2 := q1.frozen 2
        have c3 := q1.cell 3
        have f3 := q1.frozen 3
        have c4 := q1.cell 4
        have f4 := q1.frozen 4
        have c5 := q1.cell 5
        have f5 := q1.frozen 5
        have d0 := q2.cell 0
        have g0 := q2.frozen 0
        have d1 := q2.cell 1
        have g1 := q2.frozen 1
        have d2 := q2.cell 2
        have g2 := q2.frozen 2
        have d3 := q2.cell 3
        have g3 := q2.frozen 3
        have d4 := q2.cell 4
        have g4 := q2.frozen 4
        have d5 := q2.cell 5
        have g5 := q2.frozen 5
        go_wp2_with fail
        have hbe : Below w.heap.size w (World.setCell (World.setCell (World.setCell (World.setCell (World.setCell (World.setCell y17 ⟨w.heap.size + 1, 0, none⟩ (.int .u64 (sq : Int))) ⟨w.heap.size + 1, 1, none⟩ (.int .i64 1)) ⟨w.heap.size + 1, 2, none⟩ (.slice (some ⟨gk, 0, none⟩) 1 1)) ⟨w.heap.size + 1, 3, none⟩ (.slice B m1 d)) ⟨w.heap.size + 1, 4, none⟩ (.int .u32 (sg : Int))) ⟨w.heap.size + 1, 5, none⟩ (.int .u32 (of : Int))) := ((((((hbw.setCell (p := ⟨w.heap.size + 1, 0, none⟩) (by simp) (.int .u64 (sq : Int))).setCell (p := ⟨w.heap.size + 1, 1, none⟩) (by simp) (.int .i64 1)).setCell (p := ⟨w.heap.size + 1, 2, none⟩) (by simp) (.slice (some ⟨gk, 0, none⟩) 1 1)).setCell (p := ⟨w.heap.size + 1, 3, none⟩) (by simp) (.slice B m1 d)).setCell (p := ⟨w.heap.size + 1, 4, none⟩) (by simp) (.int .u32 (sg : Int))).setCell (p := ⟨w.heap.size + 1, 5, none⟩) (by simp) (.int .u32 (of : Int)))
        have rk : Rd (World.setCell (World.setCell (World.setCell (World.setCell (World.setCell (World.setCell y17 ⟨w.heap.size + 1, 0, none⟩ (.int .u64 (sq : Int))) ⟨w.heap.size + 1, 1, none⟩ (.int .i64 1)) ⟨w.heap.size + 1, 2, none⟩ (.slice (some ⟨gk, 0, none⟩) 1 1)) ⟨w.heap.size + 1, 3, none⟩ (.slice B m1 d)) ⟨w.heap.size + 1, 4, none⟩ (.int .u32 (sg : Int))) ⟨w.heap.size + 1, 5, none⟩ (.int .u32 (of : Int))) _ 1 _ 1 (bcells [7]) := (rd_set (rd_set (rd_set (rd_set (rd_set (rd_set rk (p := ⟨w.heap.size + 1, 0, none⟩) (.int .u64 (sq : Int)) hgk2) (p := ⟨w.heap.size + 1, 1, none⟩) (.int .i64 1) hgk2) (p := ⟨w.heap.size + 1, 2, none⟩) (.slice (some ⟨gk, 0, none⟩) 1 1) hgk2) (p := ⟨w.heap.size + 1, 3, none⟩) (.slice B m1 d) hgk2) (p := ⟨w.heap.size + 1, 4, none⟩) (.int .u32 (sg : Int)) hgk2) (p := ⟨w.heap.size + 1, 5, none⟩) (.int .u32 (of : Int)) hgk2)
        have rk := rk.more (B' := ((World.setCell (World.setCell (World.setCell (World.setCell (World.setCell (World.setCell y17 ⟨w.heap.size + 1, 0, none⟩ (.int .u64 (sq : Int))) ⟨w.heap.size + 1, 1, none⟩ (.int .i64 1)) ⟨w.heap.size + 1, 2, none⟩ (.slice (some ⟨gk, 0, none⟩) 1 1)) ⟨w.heap.size + 1, 3, none⟩ (.slice B m1 d)) ⟨w.heap.size + 1, 4, none⟩ (.int .u32 (sg : Int))) ⟨w.heap.size + 1, 5, none⟩ (.int .u32 (of : Int)))).heap.size) (by simp; omega)
        have ekd : (kd : Int) = 1 := by rw [HV.out.2.2 hk]; rfl
        have eof : (off : Int) = (of : Int) := by rw [HK.out.2.2 hg]
        skip
        refine bodyPost_ret (results_cell1 rfl rfl (res_load (e := 28) (cs := #[.int .u64 (sq : Int), .int .i64 1, .slice (some ⟨gk, 0, none⟩) 1 1, .slice B m1 d, .int .u32 (sg : Int), .int .u32 (of : Int)]) ((((((q2.set_ 0 (.int .u64 (sq : Int))).set_ 1 (.int .i64 1)).set_ 2 (.slice (some ⟨gk, 0, none⟩) 1 1)).set_ 3 (.slice B m1 d)).set_ 4 (.int .u32 (sg : Int))).set_ 5 (.int .u32 (of : Int))) Tryd.underlying28 rfl (by kernel_rfl))) rfl ?_
        have hfin := retRecV (B0 := B0) (q := sq) (k := (kd : Int)) (a := ka) (b := vb) (s := sg) (o := off) (w := w) (by rw [HK.out.1.1 hn0]; rfl) (by rw [HV.out.1.2 hk]; exact E6.out) (Nat.le_refl 1) t2 (by rw [HK.out.1.1 hn0]; exact RdO.new rk bk) (by rw [HV.out.1.2 hk]; exact RdO.low (tb.below hbe hB0) (Nat.le_trans hB0 hbe.size)) hbe
        simpa [ekd, eof] using hfin
  · have i0 : ((n1 : Int) == 0) = false := by simp; omega
    have c0 := q1.cell 0
    have f0 := q1.frozen 0
    have c1 := q1.cell 1
    have f1 := q1.frozen 1
    have c2 := q1.cell 2
    have f2 := q1.frozen 2
    have c3 := q1.cell 3
    have f3 := q1.frozen 3
    have c4 := q1.cell 4
    have f4 := q1.frozen 4
    have c5 := q1.cell 5
    have f5 := q1.frozen 5
    go_upto_region 5 with (fail)
    clear c0 f0 c1 f1 c2 f2 c3 f3 c4 f4 c5 f5
    by_cases hk : k = 2
    · subst hk
      have c0 := q1.cell 0
      have f0 := q1.frozen 0
      have c1 := q1.cell 1
      have f1 := q1.frozen 1
      have c2 := q1.cell 2
      have f2 := q1.frozen 2
      have c3 := q1.cell 3
      have f3 := q1.frozen 3
      have c4 := q1.cell 4
      have f4 := q1.frozen 4
      have c5 := q1.cell 5
      have f5 := q1.frozen 5
      go_upto_region 7 with (fail)
      clear c0 f0 c1 f1 c2 f2 c3 f3 c4 f4 c5 f5
      have c0 := q1.cell 0
      have f0 := q1.frozen 0
      have c1 := q1.cell 1
      have f1 := q1.frozen 1
      have c2 := q1.cell 2
      have f2 := q1.frozen 2
      have c3 := q1.cell 3
      have f3 := q1.frozen 3
      have c4 := q1.cell 4
      have f4 := q1.frozen 4
      have c5 := q1.cell 5
      have f5 := q1.frozen 5
      go_upto_region 9 with (fail)
      clear c0 f0 c1 f1 c2 f2 c3 f3 c4 f4 c5 f5
      have q1 : Blk (World.setCell w4 ⟨w.heap.size, 3, none⟩ (.slice none 0 0)) (w.heap.size) 28 #[.int .u64 (sq : Int), .int .i64 2, .slice A n1 c, .slice none 0 0, .int .u32 (s : Int), .int .u32 (o : Int)] := q1.set_ 3 (.slice none 0 0)
      have q2 := q2.far (p := ⟨w.heap.size, 3, none⟩) (by simp) (.slice none 0 0)
      have hbw := hbw.setCell (p := ⟨w.heap.size, 3, none⟩) (Nat.le_refl _) (.slice none 0 0)
      generalize (World.setCell w4 ⟨w.heap.size, 3, none⟩ (.slice none 0 0)) = y19 at *
      have hsgo := hsg
      have c0 := q1.cell 0
      have f0 := q1.frozen 0
      have c1 := q1.cell 1
      have f1 := q1.frozen 1
      have c2 := q1.cell 2
      have f2 := q1.frozen 2
      have c3 := q1.cell 3
      have f3 := q1.frozen 3
      have c4 := q1.cell 4
      have f4 := q1.frozen 4
      have c5 := q1.cell 5
      have f5 := q1.frozen 5
      go_upto_region 10 with (fail)
      clear c0 f0 c1 f1 c2 f2 c3 f3 c4 f4 c5 f5
      clear hsgo
      have q1 : Blk (World.setCell y19 ⟨w.heap.size, 4, none⟩ (.int .u32 (sg : Int))) (w.heap.size) 28 #[.int .u64 (sq : Int), .int .i64 2, .slice A n1 c, .slice none 0 0, .int .u32 (sg : Int), .int .u32 (o : Int)] := q1.set_ 4 (.int .u32 (sg : Int))
      have q2 := q2.far (p := ⟨w.heap.size, 4, none⟩) (by simp) (.int .u32 (sg : Int))
      have hbw := hbw.setCell (p := ⟨w.heap.size, 4, none⟩) (Nat.le_refl _) (.int .u32 (sg : Int))
      generalize (World.setCell y19 ⟨w.heap.size, 4, none⟩ (.int .u32 (sg : Int))) = y20 at *
      have c0 := q1.cell 0
      have f0 := q1.frozen 0
      have c1 := q1.cell 1
      have f1 := q1.frozen 1
      have c2 := q1.cell 2
      have f2 := q1.frozen 2
      have c3 := q1.cell 3
      have f3 := q1.frozen 3
      have c4 := q1.cell 4
      have f4 := q1.frozen 4
      have c5 := q1.cell 5
      have f5 := q1.frozen 5
      go_upto_region 11 with (fail)
      clear c0 f0 c1 f1 c2 f2 c3 f3 c4 f4 c5 f5
      have q1 : Blk (World.setCell y20 ⟨w.heap.size, 5, none⟩ (.int .u32 (of : Int))) (w.heap.size) 28 #[.int .u64 (sq : Int), .int .i64 2, .slice A n1 c, .slice none 0 0, .int .u32 (sg : Int), .int .u32 (of : Int)] := q1.set_ 5 (.int .u32 (of : Int))
      have q2 := q2.far (p := ⟨w.heap.size, 5, none⟩) (by simp) (.int .u32 (of : Int))
      have hbw := hbw.setCell (p := ⟨w.heap.size, 5, none⟩) (Nat.le_refl _) (.int .u32 (of : Int))
      generalize (World.setCell y20 ⟨w.heap.size, 5, none⟩ (.int .u32 (of : Int))) = y21 at *
      by_cases hg : sg = 0
      · have i4 : ((sg : Int) == 0) = true := by simp [hg]
        have hgz : (sg : Int) = 0 := by rw [hg]; rfl
        rw [hgz] at q1
        have c0 := q1.cell 0
        have f0 := q1.frozen 0
        have c1 := q1.cell 1
        have f1 := q1.frozen 1
        have c2 := q1.cell 2
        have f2 := q1.frozen 2
        have c3 := q1.cell 3
        have f3 := q1.frozen 3
        have c4 := q1.cell 4
        have f4 := q1.frozen 4
        have c5 := q1.cell 5
        have f5 := q1.frozen 5
        go_upto_region 13 with (fail)
        clear c0 f0 c1 f1 c2 f2 c3 f3 c4 f4 c5 f5
        have q1 : Blk (World.setCell (World.setCell y21 ⟨w.heap.size, 4, none⟩ (.int .u32 0)) ⟨w.heap.size, 5, none⟩ (.int .u32 0)) (w.heap.size) 28 #[.int .u64 (sq : Int), .int .i64 2, .slice A n1 c, .slice none 0 0, .int .u32 0, .int .u32 0] := (q1.set_ 4 (.int .u32 0)).set_ 5 (.int .u32 0)
        have q2 := (q2.far (p := ⟨w.heap.size, 4, none⟩) (by simp) (.int .u32 0)).far (p := ⟨w.heap.size, 5, none⟩) (by simp) (.int .u32 0)
        have hbw := (hbw.setCell (p := ⟨w.heap.size, 4, none⟩) (Nat.le_refl _) (.int .u32 0)).setCell (p := ⟨w.heap.size, 5, none⟩) (Nat.le_refl _) (.int .u32 0)
        generalize World.setCell (World.setCell y21 ⟨w.heap.size, 4, none⟩ (.int .u32 0)) ⟨w.heap.size, 5, none⟩ (.int .u32 0) = y22 at *
        have c0 := q1.cell 0
        have f0 := q1.frozen 0
        have c1 := q1.cell 1
        have f1 := q1.frozen 1
        have c2 := q1.cell 2
        have f2 := q1.frozen 2
        have c3 := q1.cell 3
        have f3 := q1.frozen 3
        have c4 := q1.cell 4
        have f4 := q1.frozen 4
        have c5 := q1.cell 5
        have f5 := q1.frozen 5
        have d0 := q2.cell 0
        have g0 := q2.frozen 0
        have d1 := q2.cell 1
        have g1 := q2.frozen 1
        have d2 := q2.cell 2
        have g2 := q2.frozen 2
        have d3 := q2.cell 3
        have g3 := q2.frozen 3
        have d4 := q2.cell 4
        have g4 := q2.frozen 4
        have d5 := q2.cell 5
        have g5 := q2.frozen 5
        go_wp2_with fail
        have hbe : Below w.heap.size w (World.setCell (World.setCell (World.setCell (World.setCell (World.setCell (World.setCell y22 ⟨w.heap.size + 1, 0, none⟩ (.int .u64 (sq : Int))) ⟨w.heap.size + 1, 1, none⟩ (.int .i64 2)) ⟨w.heap.size + 1, 2, none⟩ (.slice A n1 c)) ⟨w.heap.size + 1, 3, none⟩ (.slice none 0 0)) ⟨w.heap.size + 1, 4, none⟩ (.int .u32 0)) ⟨w.heap.size + 1, 5, none⟩ (.int .u32 0)) := ((((((hbw.setCell (p := ⟨w.heap.size + 1, 0, none⟩) (by simp) (.int .u64 (sq : Int))).setCell (p := ⟨w.heap.size + 1, 1, none⟩) (by simp) (.int .i64 2)).setCell (p := ⟨w.heap.size + 1, 2, none⟩) (by simp) (.slice A n1 c)).setCell (p := ⟨w.heap.size + 1, 3, none⟩) (by simp) (.slice none 0 0)).setCell (p := ⟨w.heap.size + 1, 4, none⟩) (by simp) (.int .u32 0)).setCell (p := ⟨w.heap.size + 1, 5, none⟩) (by simp) (.int .u32 0))
        have ekd : (kd : Int) = 2 := by rw [HV.out.2.1 (by simp)]; rfl
        have eof : (off : Int) = 0 := by rw [HK.out.2.1 hg]; rfl
        skip
        refine bodyPost_ret (results_cell1 rfl rfl (res_load (e := 28) (cs := #[.int .u64 (sq : Int), .int .i64 2, .slice A n1 c, .slice none 0 0, .int .u32 0, .int .u32 0]) ((((((q2.set_ 0 (.int .u64 (sq : Int))).set_ 1 (.int .i64 2)).set_ 2 (.slice A n1 c)).set_ 3 (.slice none 0 0)).set_ 4 (.int .u32 0)).set_ 5 (.int .u32 0)) Tryd.underlying28 rfl (by kernel_rfl))) rfl ?_
        have hfin := retRecV (B0 := B0) (q := sq) (k := (kd : Int)) (a := ka) (b := vb) (s := sg) (o := off) (w := w) (B := none) (by rw [HK.out.1.2 hn0]; exact E5.out) (by rw [HV.out.1.1 (by simp)]; rfl) t1 (Nat.le_refl 0) (by rw [HK.out.1.2 hn0]; exact RdO.low (ta.below hbe hB0) (Nat.le_trans hB0 hbe.size)) (by rw [HV.out.1.1 (by simp)]; exact RdO.nil_ _ _ _ none) hbe
        simpa [ekd, eof, hg] using hfin
      · have i4 : ((sg : Int) == 0) = false := by simp; omega
        have c0 := q1.cell 0
        have f0 := q1.frozen 0
        have c1 := q1.cell 1
        have f1 := q1.frozen 1
        have c2 := q1.cell 2
        have f2 := q1.frozen 2
        have c3 := q1.cell 3
        have f3 := q1.frozen 3
        have c4 := q1.cell 4
        have f4 := q1.frozen 4
        have c5 := q1.cell 5
        have f5 := q1.frozen 5
        go_upto_region 13 with (fail)
        clear c0 f0 c1 f1 c2 f2 c3 f3 c4 f4 c5 f5
        have c0 := q1.cell 0
        have f0 := q1.frozen 0
        have c1 := q1.cell 1
        have f1 := q1.frozen 1
        have c2 := q1.cell 2
        have f2 := q1.frozen 2
        have c3 := q1.cell 3
        have f3 := q1.frozen 3
        have c4 := q1.cell 4
        have f4 := q1.frozen 4
        have c5 := q1.cell 5
        have f5 := q1.frozen 5
        have d0 := q2.cell 0
        have g0 := q2.frozen 0
        have d1 := q2.cell 1
        have g1 := q2.frozen 1
        have d2 := q2.cell 2
        have g2 := q2.frozen 2
        have d3 := q2.cell 3
        have g3 := q2.frozen 3
        have d4 := q2.cell 4
        have g4 := q2.frozen 4
        have d5 := q2.cell 5
        have g5 := q2.frozen 5
        go_wp2_with fail
        have hbe : Below w.heap.size w (World.setCell (World.setCell (World.setCell (World.setCell (World.setCell (World.setCell y21 ⟨w.heap.size + 1, 0, none⟩ (.int .u64 (sq : Int))) ⟨w.heap.size + 1, 1, none⟩ (.int .i64 2)) ⟨w.heap.size + 1, 2, none⟩ (.slice A n1 c)) ⟨w.heap.size + 1, 3, none⟩ (.slice none 0 0)) ⟨w.heap.size + 1, 4, none⟩ (.int .u32 (sg : Int))) ⟨w.heap.size + 1, 5, none⟩ (.int .u32 (of : Int))) := ((((((hbw.setCell (p := ⟨w.heap.size + 1, 0, none⟩) (by simp) (.int .u64 (sq : Int))).setCell (p := ⟨w.heap.size + 1, 1, none⟩) (by simp) (.int .i64 2)).setCell (p := ⟨w.heap.size + 1, 2, none⟩) (by simp) (.slice A n1 c)).setCell (p := ⟨w.heap.size + 1, 3, none⟩) (by simp) (.slice none 0 0)).setCell (p := ⟨w.heap.size + 1, 4, none⟩) (by simp) (.int .u32 (sg : Int))).setCell (p := ⟨w.heap.size + 1, 5, none⟩) (by simp) (.int .u32 (of : Int)))
        have ekd : (kd : Int) = 2 := by rw [HV.out.2.1 (by simp)]; rfl
        have eof : (off : Int) = (of : Int) := by rw [HK.out.2.2 hg]
        skip
        refine bodyPost_ret (results_cell1 rfl rfl (res_load (e := 28) (cs := #[.int .u64 (sq : Int), .int .i64 2, .slice A n1 c, .slice none 0 0, .int .u32 (sg : Int), .int .u32 (of : Int)]) ((((((q2.set_ 0 (.int .u64 (sq : Int))).set_ 1 (.int .i64 2)).set_ 2 (.slice A n1 c)).set_ 3 (.slice none 0 0)).set_ 4 (.int .u32 (sg : Int))).set_ 5 (.int .u32 (of : Int))) Tryd.underlying28 rfl (by kernel_rfl))) rfl ?_
        have hfin := retRecV (B0 := B0) (q := sq) (k := (kd : Int)) (a := ka) (b := vb) (s := sg) (o := off) (w := w) (B := none) (by rw [HK.out.1.2 hn0]; exact E5.out) (by rw [HV.out.1.1 (by simp)]; rfl) t1 (Nat.le_refl 0) (by rw [HK.out.1.2 hn0]; exact RdO.low (ta.below hbe hB0) (Nat.le_trans hB0 hbe.size)) (by rw [HV.out.1.1 (by simp)]; exact RdO.nil_ _ _ _ none) hbe
        simpa [ekd, eof] using hfin
    · have i2 : (k != 2) = true := by simpa using hk
      have i3 : (k == 2) = false := by simpa using hk
      have c0 := q1.cell 0
      have f0 := q1.frozen 0
      have c1 := q1.cell 1
      have f1 := q1.frozen 1
      have c2 := q1.cell 2
      have f2 := q1.frozen 2
      have c3 := q1.cell 3
      have f3 := q1.frozen 3
      have c4 := q1.cell 4
      have f4 := q1.frozen 4
      have c5 := q1.cell 5
      have f5 := q1.frozen 5
      go_upto_region 7 with (fail)
      clear c0 f0 c1 f1 c2 f2 c3 f3 c4 f4 c5 f5
      have q1 : Blk (World.setCell w4 ⟨w.heap.size, 1, none⟩ (.int .i64 1)) (w.heap.size) 28 #[.int .u64 (sq : Int), .int .i64 1, .slice A n1 c, .slice B m1 d, .int .u32 (s : Int), .int .u32 (o : Int)] := q1.set_ 1 (.int .i64 1)
      have q2 := q2.far (p := ⟨w.heap.size, 1, none⟩) (by simp) (.int .i64 1)
      have hbw := hbw.setCell (p := ⟨w.heap.size, 1, none⟩) (Nat.le_refl _) (.int .i64 1)
      generalize (World.setCell w4 ⟨w.heap.size, 1, none⟩ (.int .i64 1)) = y23 at *
      have c0 := q1.cell 0
      have f0 := q1.frozen 0
      have c1 := q1.cell 1
      have f1 := q1.frozen 1
      have c2 := q1.cell 2
      have f2 := q1.frozen 2
      have c3 := q1.cell 3
      have f3 := q1.frozen 3
      have c4 := q1.cell 4
      have f4 := q1.frozen 4
      have c5 := q1.cell 5
      have f5 := q1.frozen 5
      go_upto_region 9 with (fail)
      clear c0 f0 c1 f1 c2 f2 c3 f3 c4 f4 c5 f5
      have hsgo := hsg
      have c0 := q1.cell 0
      have f0 := q1.frozen 0
      have c1 := q1.cell 1
      have f1 := q1.frozen 1
      have c2 := q1.cell 2
      have f2 := q1.frozen 2
      have c3 := q1.cell 3
      have f3 := q1.frozen 3
      have c4 := q1.cell 4
      have f4 := q1.frozen 4
      have c5 := q1.cell 5
      have f5 := q1.frozen 5
      go_upto_region 10 with (fail)
      clear c0 f0 c1 f1 c2 f2 c3 f3 c4 f4 c5 f5
      clear hsgo
      have q1 : Blk (World.setCell y23 ⟨w.heap.size, 4, none⟩ (.int .u32 (sg : Int))) (w.heap.size) 28 #[.int .u64 (sq : Int), .int .i64 1, .slice A n1 c, .slice B m1 d, .int .u32 (sg : Int), .int .u32 (o : Int)] := q1.set_ 4 (.int .u32 (sg : Int))
      have q2 := q2.far (p := ⟨w.heap.size, 4, none⟩) (by simp) (.int .u32 (sg : Int))
      have hbw := hbw.setCell (p := ⟨w.heap.size, 4, none⟩) (Nat.le_refl _) (.int .u32 (sg : Int))
      generalize (World.setCell y23 ⟨w.heap.size, 4, none⟩ (.int .u32 (sg : Int))) = y24 at *
      have c0 := q1.cell 0
      have f0 := q1.frozen 0
      have c1 := q1.cell 1
      have f1 := q1.frozen 1
      have c2 := q1.cell 2
      have f2 := q1.frozen 2
      have c3 := q1.cell 3
      have f3 := q1.frozen 3
      have c4 := q1.cell 4
      have f4 := q1.frozen 4
      have c5 := q1.cell 5
      have f5 := q1.frozen 5
      go_upto_region 11 with (fail)
      clear c0 f0 c1 f1 c2 f2 c3 f3 c4 f4 c5 f5
      have q1 : Blk (World.setCell y24 ⟨w.heap.size, 5, none⟩ (.int .u32 (of : Int))) (w.heap.size) 28 #[.int .u64 (sq : Int), .int .i64 1, .slice A n1 c, .slice B m1 d, .int .u32 (sg : Int), .int .u32 (of : Int)] := q1.set_ 5 (.int .u32 (of : Int))
      have q2 := q2.far (p := ⟨w.heap.size, 5, none⟩) (by simp) (.int .u32 (of : Int))
      have hbw := hbw.setCell (p := ⟨w.heap.size, 5, none⟩) (Nat.le_refl _) (.int .u32 (of : Int))
      generalize (World.setCell y24 ⟨w.heap.size, 5, none⟩ (.int .u32 (of : Int))) = y25 at *
      by_cases hg : sg = 0
      · have i4 : ((sg : Int) == 0) = true := by simp [hg]
        have hgz : (sg : Int) = 0 := by rw [hg]; rfl
        rw [hgz] at q1
        have c0 := q1.cell 0
        have f0 := q1.frozen 0
        have c1 := q1.cell 1
        have f1 := q1.frozen 1
        have c2 := q1.cell 2
        have f2 := q1.frozen 2
        have c3 := q1.cell 3
        have f3 := q1.frozen 3
        have c4 := q1.cell 4
        have f4 := q1.frozen 4
        have c5 := q1.cell 5
        have f5 := q1.frozen 5
        go_upto_region 13 with (fail)
        clear c0 f0 c1 f1 c2 f2 c3 f3 c4 f4 c5 f5
        have q1 : Blk (World.setCell (World.setCell y25 ⟨w.heap.size, 4, none⟩ (.int .u32 0)) ⟨w.heap.size, 5, none⟩ (.int .u32 0)) (w.heap.size) 28 #[.int .u64 (sq : Int), .int .i64 1, .slice A n1 c, .slice B m1 d, .int .u32 0, .int .u32 0] := (q1.set_ 4 (.int .u32 0)).set_ 5 (.int .u32 0)
        have q2 := (q2.far (p := ⟨w.heap.size, 4, none⟩) (by simp) (.int .u32 0)).far (p := ⟨w.heap.size, 5, none⟩) (by simp) (.int .u32 0)
        have hbw := (hbw.setCell (p := ⟨w.heap.size, 4, none⟩) (Nat.le_refl _) (.int .u32 0)).setCell (p := ⟨w.heap.size, 5, none⟩) (Nat.le_refl _) (.int .u32 0)
        generalize World.setCell (World.setCell y25 ⟨w.heap.size, 4, none⟩ (.int .u32 0)) ⟨w.heap.size, 5, none⟩ (.int .u32 0) = y26 at *
        have c0 := q1.cell 0
        have f0 := q1.frozen 0
        have c1 := q1.cell 1
        have f1 := q1.frozen 1
        have c2 := q1.cell 2
        have f2 := q1.frozen 2
        have c3 := q1.cell 3
        have f3 := q1.frozen 3
        have c4 := q1.cell 4
        have f4 := q1.frozen 4
        have c5 := q1.cell 5
        have f5 := q1.frozen 5
        have d0 := q2.cell 0
        have g0 := q2.frozen 0
        have d1 := q2.cell 1
        have g1 := q2.frozen 1
        have d2 := q2.cell 2
        have g2 := q2.frozen 2
        have d3 := q2.cell 3
        have g3 := q2.frozen 3
        have d4 := q2.cell 4
        have g4 := q2.frozen 4
        have d5 := q2.cell 5
        have g5 := q2.frozen 5
        go_wp2_with fail
        have hbe : Below w.heap.size w (World.setCell (World.setCell (World.setCell (World.setCell (World.setCell (World.setCell y26 ⟨w.heap.size + 1, 0, none⟩ (.int .u64 (sq : Int))) ⟨w.heap.size + 1, 1, none⟩ (.int .i64 1)) ⟨w.heap.size + 1, 2, none⟩ (.slice A n1 c)) ⟨w.heap.size + 1, 3, none⟩ (.slice B m1 d)) ⟨w.heap.size + 1, 4, none⟩ (.int .u32 0)) ⟨w.heap.size + 1, 5, none⟩ (.int .u32 0)) := ((((((hbw.setCell (p := ⟨w.heap.size + 1, 0, none⟩) (by simp) (.int .u64 (sq : Int))).setCell (p := ⟨w.heap.size + 1, 1, none⟩) (by simp) (.int .i64 1)).setCell (p := ⟨w.heap.size + 1, 2, none⟩) (by simp) (.slice A n1 c)).setCell (p := ⟨w.heap.size + 1, 3, none⟩) (by simp) (.slice B m1 d)).setCell (p := ⟨w.heap.size + 1, 4, none⟩) (by simp) (.int .u32 0)).setCell (p := ⟨w.heap.size + 1, 5, none⟩) (by simp) (.int .u32 0))
        have ekd : (kd : Int) = 1 := by rw [HV.out.2.2 hk]; rfl
        have eof : (off : Int) = 0 := by rw [HK.out.2.1 hg]; rfl
        skip
        refine bodyPost_ret (results_cell1 rfl rfl (res_load (e := 28) (cs := #[.int .u64 (sq : Int), .int .i64 1, .slice A n1 c, .slice B m1 d, .int .u32 0, .int .u32 0]) ((((((q2.set_ 0 (.int .u64 (sq : Int))).set_ 1 (.int .i64 1)).set_ 2 (.slice A n1 c)).set_ 3 (.slice B m1 d)).set_ 4 (.int .u32 0)).set_ 5 (.int .u32 0)) Tryd.underlying28 rfl (by kernel_rfl))) rfl ?_
        have hfin := retRecV (B0 := B0) (q := sq) (k := (kd : Int)) (a := ka) (b := vb) (s := sg) (o := off) (w := w) (by rw [HK.out.1.2 hn0]; exact E5.out) (by rw [HV.out.1.2 hk]; exact E6.out) t1 t2 (by rw [HK.out.1.2 hn0]; exact RdO.low (ta.below hbe hB0) (Nat.le_trans hB0 hbe.size)) (by rw [HV.out.1.2 hk]; exact RdO.low (tb.below hbe hB0) (Nat.le_trans hB0 hbe.size)) hbe
        simpa [ekd, eof, hg] using hfin
      · have i4 : ((sg : Int) == 0) = false := by simp; omega
        have c0 := q1.cell 0
        have f0 := q1.frozen 0
        have c1 := q1.cell 1
        have f1 := q1.frozen 1
        have c2 := q1.cell 2
        have f2 := q1.frozen 2
        have c3 := q1.cell 3
        have f3 := q1.frozen 3
        have c4 := q1.cell 4
        have f4 := q1.frozen 4
        have c5 := q1.cell 5
        have f5 := q1.frozen 5
        go_upto_region 13 with (fail)
        clear c0 f0 c1 f1 c2 f2 c3 f3 c4 f4 c5 f5
        have c0 := q1.cell 0
        have f0 := q1.frozen 0
        have c1 := q1.cell 1
        have f1 := q1.frozen 1
        have c2 := q1.cell 2
        have f2 := q1.frozen 2
        have c3 := q1.cell 3
        have f3 := q1.frozen 3
        have c4 := q1.cell 4
        have f4 := q1.frozen 4
        have c5 := q1.cell 5
        have f5 := q1.frozen 5
        have d0 := q2.cell 0
        have g0 := q2.frozen 0
        have d1 := q2.cell 1
        have g1 := q2.frozen 1
        have d2 := q2.cell 2
        have g2 := q2.frozen 2
        have d3 := q2.cell 3
        have g3 := q2.frozen 3
        have d4 := q2.cell 4
        have g4 := q2.frozen 4
        have d5 := q2.cell 5
        have g5 := q2.frozen 5
        go_wp2_with fail
        have hbe : Below w.heap.size w (World.setCell (World.setCell (World.setCell (World.setCell (World.setCell (World.setCell y25 ⟨w.heap.size + 1, 0, none⟩ (.int .u64 (sq : Int))) ⟨w.heap.size + 1, 1, none⟩ (.int .i64 1)) ⟨w.heap.size + 1, 2, none⟩ (.slice A n1 c)) ⟨w.heap.size + 1, 3, none⟩ (.slice B m1 d)) ⟨w.heap.size + 1, 4, none⟩ (.int .u32 (sg : Int))) ⟨w.heap.size + 1, 5, none⟩ (.int .u32 (of : Int))) := ((((((hbw.setCell (p := ⟨w.heap.size + 1, 0, none⟩) (by simp) (.int .u64 (sq : Int))).setCell (p := ⟨w.heap.size + 1, 1, none⟩) (by simp) (.int .i64 1)).setCell (p := ⟨w.heap.size + 1, 2, none⟩) (by simp) (.slice A n1 c)).setCell (p := ⟨w.heap.size + 1, 3, none⟩) (by simp) (.slice B m1 d)).setCell (p := ⟨w.heap.size + 1, 4, none⟩) (by simp) (.int .u32 (sg : Int))).setCell (p := ⟨w.heap.size + 1, 5, none⟩) (by simp) (.int .u32 (of : Int)))
        have ekd : (kd : Int) = 1 := by rw [HV.out.2.2 hk]; rfl
        have eof : (off : Int) = (of : Int) := by rw [HK.out.2.2 hg]
        skip
        refine bodyPost_ret (results_cell1 rfl rfl (res_load (e := 28) (cs := #[.int .u64 (sq : Int), .int .i64 1, .slice A n1 c, .slice B m1 d, .int .u32 (sg : Int), .int .u32 (of : Int)]) ((((((q2.set_ 0 (.int .u64 (sq : Int))).set_ 1 (.int .i64 1)).set_ 2 (.slice A n1 c)).set_ 3 (.slice B m1 d)).set_ 4 (.int .u32 (sg : Int))).set_ 5 (.int .u32 (of : Int))) Tryd.underlying28 rfl (by kernel_rfl))) rfl ?_
        have hfin := retRecV (B0 := B0) (q := sq) (k := (kd : Int)) (a := ka) (b := vb) (s := sg) (o := off) (w := w) (by rw [HK.out.1.2 hn0]; exact E5.out) (by rw [HV.out.1.2 hk]; exact E6.out) t1 t2 (by rw [HK.out.1.2 hn0]; exact RdO.low (ta.below hbe hB0) (Nat.le_trans hB0 hbe.size)) (by rw [HV.out.1.2 hk]; exact RdO.low (tb.below hbe hB0) (Nat.le_trans hB0 hbe.size)) hbe
        simpa [ekd, eof] using hfin
end Go.Proofs.YtlnidmjnomoddaaDoor
