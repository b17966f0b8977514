/- Package link: what links are in memory; New, none, Len, Last. -/
import Derived.Test.YtnkkieiofpplgaaLkLoc
import Derived.Test.YtnkkieiofpplgaaKOk
import Derived.Test.YtnkkieiofpplgaaPrLaw
import Derived.Test.YtnkkieiofpplgaaRec1
import Derived.Test.YtnkkieiofpplgaaGB
import Derived.Deep.CutRange
import Derived.WalkSpells
namespace Go.Proofs.Ytnkkieiofpplgaa
open Go.RowKit
attribute [local go_sem] Oper.semAt_some

structure LS where
  heads : List (List UInt8 × (Nat × Nat × Nat × Int))
  ahead : List ((Nat × Nat) × (Nat × Nat))
  wrong : List (Nat × Nat)
  last : Nat
def headC (h : Nat × Nat × Nat × Int) : Array Value := #[.int .u32 (h.1 : Int), .int .u32 (h.2.1 : Int), .int .u64 (h.2.2.1 : Int), .int .i64 h.2.2.2]
def hdV (h : Nat × Nat × Nat × Int) : Value := .agg (headC h)
def lcs (L : List (Nat × Nat)) : List Value := L.flatMap fun l => [.int .u32 (l.1 : Int), .int .u32 (l.2 : Int)]
theorem lcs_len (L : List (Nat × Nat)) : (lcs L).length = L.length * 2 := flatMap_len _ 2 (fun _ => rfl) L
theorem lcs_snoc (L : List (Nat × Nat)) (l : Nat × Nat) : lcs (L ++ [l]) = lcs L ++ [.int .u32 (l.1 : Int), .int .u32 (l.2 : Int)] := by unfold lcs; rw [List.flatMap_append]; simp
/-- links in memory: their block, that of the heads, that of the locs ahead, the wrong ones; everything from block B on -/
def Lk (w : World) (B g bh ba : Nat) (v : Value) (S : LS) : Prop := B ≤ g ∧ B ≤ bh ∧ B ≤ ba ∧ bh ≠ ba ∧ Blk w g 71 #[.map (some bh), .map (some ba), v, .int .u64 (S.last : Int)] ∧
  Mt Try.prog 80 w bh KOk kpv hdV S.heads ∧ Mt Try.prog 34 w ba LOk locP locP S.ahead ∧ Ow w B 34 2 v S.wrong.length (lcs S.wrong)
def lkF (g bh ba : Nat) (v : Value) : List (Option Nat) := [some g, some bh, some ba, v.ownBlock]
section
variable {w w' : World} {B B' g bh ba : Nat} {v : Value} {S : LS}
theorem Lk.kp {s : List (Option Nat)} (h : Lk w B g bh ba v S) (k : Kp s w w') (d : Dj (lkF g bh ba v) s) : Lk w' B g bh ba v S := by
  obtain ⟨h1, h2, h3, h4, q, mh, ma, o⟩ := h
  exact ⟨h1, h2, h3, h4, q.kp k (d g (by simp [lkF])), mh.kp k (d bh (by simp [lkF])), ma.kp k (d ba (by simp [lkF])), o.kp k fun j hj => d j (by simp [lkF, hj])⟩
theorem Lk.after (h : Lk w B g bh ba v S) (hb : Below w.heap.size w w') : Lk w' B g bh ba v S := h.kp (s := []) (Kp.of_new hb) fun _ _ => by simp
theorem Lk.low (h : Lk w B g bh ba v S) (hb : B' ≤ B) : Lk w B' g bh ba v S := by
  obtain ⟨h1, h2, h3, h4, q, mh, ma, o⟩ := h
  exact ⟨by omega, by omega, by omega, h4, q, mh, ma, own_low o hb⟩
theorem Lk.lt (h : Lk w B g bh ba v S) : ∀ j, some j ∈ lkF g bh ba v → j < w.heap.size := by
  obtain ⟨h1, h2, h3, h4, q, mh, ma, o⟩ := h
  intro j hj
  simp only [lkF, List.mem_cons, Option.some.injEq, List.not_mem_nil, or_false] at hj
  rcases hj with rfl | rfl | rfl | hj
  · exact q.lt
  · exact mh.lt
  · exact ma.lt
  · exact Ow.hi o j hj.symm
theorem Lk.lo (h : Lk w B g bh ba v S) : ∀ j, some j ∈ lkF g bh ba v → B ≤ j := by
  obtain ⟨h1, h2, h3, h4, q, mh, ma, o⟩ := h
  intro j hj
  simp only [lkF, List.mem_cons, Option.some.injEq, List.not_mem_nil, or_false] at hj
  rcases hj with rfl | rfl | rfl | hj
  · exact h1
  · exact h2
  · exact h3
  · exact Ow.lo o j hj.symm
end

set_option maxRecDepth 100000 in
theorem nonelk_any {B g bh ba : Nat} {v : Value} {S : LS} (w : World) (h : Lk w B g bh ba v S) : Calls Try.prog 26 #[.pointer (some ⟨g, 0, none⟩)] w fun e w' => e = .returned (.bool false) ∧ w = w' := by
  obtain ⟨-, -, -, -, q, -⟩ := h
  have c0 : w.cell? ⟨g, 0, none⟩ = some (.map (some bh)) := q.cell 0
  have hq := run_eql_map_nil (P := Try.prog) w 68 _ _ (some bh) Try.underlying68
  go_enter Try.func26, Try.ntmps26
  go_wp2_with fail
  exact bodyPost_ret (results_tmp rfl _ _ _) rfl ⟨rfl, rfl⟩
set_option maxRecDepth 100000 in
theorem newlk_any (w : World) : Calls Try.prog 8 #[] w fun e w' => e = .returned (.pointer (some ⟨w.heap.size + 1 + 1, 0, none⟩)) ∧ Lk w' w.heap.size (w.heap.size + 1 + 1) w.heap.size (w.heap.size + 1) (.slice none 0 0) ⟨[], [], [], 0⟩ ∧ Below w.heap.size w w' := by
  have hmk : ∀ W, (Instr.makeMap 68 none).run Try.prog W = .ok (.map (some W.heap.size)) (W.alloc (.map #[] 0)) := fun W => run_makeMap _ W
  have hml : ∀ W, (Instr.makeMap 69 none).run Try.prog W = .ok (.map (some W.heap.size)) (W.alloc (.map #[] 0)) := fun W => run_makeMap _ W
  have m1 := (((Mt.new (α := List UInt8) (β := Nat × Nat × Nat × Int) w Try.prog 80).alloc (.map #[] 0)).alloc (.cells #[Value.map (some w.heap.size), Value.map (some (w.heap.size + 1)), Value.slice none 0 0, Value.int IntKind.u64 0] 71) : Mt _ _ _ _ KOk kpv hdV [])
  have m2 := ((Mt.new (α := Nat × Nat) (β := Nat × Nat) (w.alloc (.map #[] 0)) Try.prog 34).alloc (.cells #[Value.map (some w.heap.size), Value.map (some (w.heap.size + 1)), Value.slice none 0 0, Value.int IntKind.u64 0] 71) : Mt _ _ _ _ LOk locP locP [])
  have q := Blk.newAt ((w.alloc (.map #[] 0)).alloc (.map #[] 0)) 71 #[Value.map (some w.heap.size), Value.map (some (w.heap.size + 1)), Value.slice none 0 0, Value.int IntKind.u64 0] (g := w.heap.size + 1 + 1) (by simp)
  have hb := (((Below.refl w.heap.size w).alloc (Nat.le_refl _) (.map #[] 0)).alloc (by simp) (.map #[] 0)).alloc (by simp; omega) (.cells #[Value.map (some w.heap.size), Value.map (some (w.heap.size + 1)), Value.slice none 0 0, Value.int IntKind.u64 0] 71)
  go_enter Try.func8, Try.ntmps8
  go_wp2_with fail
  refine bodyPost_ret (results_tmp rfl _ _ _) rfl ⟨rfl, ⟨by omega, Nat.le_refl _, by omega, by omega, q, m1, ?_, World.ownsRow_nil _ _ _ _⟩, hb⟩
  have : (w.alloc (.map #[] 0)).heap.size = w.heap.size + 1 := by simp
  rw [this] at m2
  exact m2
end Go.Proofs.Ytnkkieiofpplgaa
