/- What key.Hash comes to: a fold over the row's words. -/
import Derived.Test.YticjecfbjmibaaaHash1
namespace Go.Proofs.Yticjecfbjmibaaa
open Go.RowKit
attribute [local go_sem] Oper.semAt_some

set_option maxHeartbeats 400000 in
theorem words_any (A : Option Addr) (n c : Nat) (w : World) :
    Calls Try.prog 22 #[.slice A n c] w fun e w' => e = .returned (.func (.func 27) #[] #[.pointer (some ⟨w.heap.size, 0, none⟩)]) ∧
      w.alloc (.cells #[.slice A n c] 23) = w' := by
  go_enter Try.func22, Try.ntmps22
  go_wp2
  go_ret
  exact ⟨rfl, rfl⟩

/-- a round of Hash -/
def mixI (h : Int) (w : Nat) : Int := bits .xor .u64 (IntKind.u64.wrap (bits .xor .u64 h (w : Int) * 13787848793156543929)) (IntKind.u64.wrap (bits .xor .u64 h (w : Int) * 13787848793156543929) / 4294967296)
def hash0 (s : Int) (n : Nat) : Int := bits .xor .u64 s (IntKind.u64.wrap ((n : Int) * 11400714819323198485))
def hashI (s : Int) (l : List UInt8) : Int := (ws l).foldl (fun h x => mixI h x.2) (hash0 s l.length)

set_option maxHeartbeats 1000000 in
theorem hash_any (s : Int) (l : List UInt8) (A : Option Addr) (n c : Nat) (w : World) (hnc : n ≤ c) (hnn : n ≤ 1000000) (h : Rd w w.heap.size 1 A n (bcells l)) :
    Calls Try.prog 14 #[.int .u64 s, .slice A n c] w fun e w' => e = .returned (.int .u64 (hashI s l)) ∧ Below w.heap.size w w' := by
  have hln := h.1
  rw [bcells_len, Nat.mul_one] at hln
  obtain ⟨hh, he⟩ : ∃ hh, hh = hash0 s n := ⟨_, rfl⟩
  have hI : hashI s l = (ws l).foldl (fun h x => mixI h x.2) hh := by unfold hashI; rw [hln, he]
  rw [hI]
  clear hI
  unfold hash0 at he
  have HE := Lib.hid he.symm
  clear he
  have HW := fun w => Lib.hid (words_any A n c w)
  refine callsIn_wide (n := 5) |>.1 (callsIn_of_wp_marks Try.func14 rfl trivial ?_ rfl)
  simp only [Try.ntmps14, List.size_toArray, List.length_cons, List.length_nil, Nat.reduceAdd, Nat.reduceSub, Array.replicate_succ, Array.replicate_zero, List.push_toArray, List.append_toArray, List.nil_append, List.cons_append]
  gi_wp2_with fail
  rw [HE.out]
  clear HE
  generalize IntKind.u64.wrap ((n : Int) * 11400714819323198485) = ll
  have hb := (Below.refl w.heap.size w).alloc (Nat.le_refl _) (.cells #[.int .u64 hh] 32)
  have hbx := Boxed.new w 32 (.int .u64 hh)
  have hs : (w.alloc (.cells #[.int .u64 hh] 32)).heap.size = w.heap.size + 1 := by simp
  generalize w.alloc (.cells #[.int .u64 hh] 32) = W2 at hb hbx hs ⊢
  refine ⟨trivial, (callsIn_wide.2 (HW W2).out).mono ?_⟩
  rintro e w' ⟨rfl, rfl⟩
  have hb3 := hb.alloc (by omega) (.cells #[.slice A n c] 23)
  have hp1 := Boxed.new W2 23 (.slice A n c)
  have hbx3 := hbx.alloc (.cells #[.slice A n c] 23)
  have hs3 : (W2.alloc (.cells #[.slice A n c] 23)).heap.size = w.heap.size + 2 := by simp [hs]
  rw [hs] at hp1 ⊢
  clear hb hbx
  generalize W2.alloc (.cells #[.slice A n c] 23) = W3 at hb3 hp1 hbx3 hs3 ⊢
  clear hs HW
  gi_wp2_with fail
  refine wpIn_rangeFunc_ownF rfl (by omega) (gf := 27) (lb := #[.pointer (some ⟨w.heap.size + 1, 0, none⟩)]) rfl trivial (enters_of Try.func27 (by kernel_rfl) rfl)
    (α := Nat × Nat) (encs := fun x => #[.int .i64 (x.1 : Nat), .int .u64 (x.2 : Nat)]) (Kp := Kp1 w.heap.size (w.heap.size + 1)) (S := fun ys => ys = ws l) (Sp := fun pre => pre <+: ws l) (N := (ws l).length) (w0 := W3)
    ?hseq
    (fun h k => h.trans k) ?hKb (Below.refl _ _) (fun _ => rfl)
    (fun pre W => Boxed W w.heap.size 32 (.int .u64 (pre.foldl (fun h x => mixI h x.2) hh)) ∧ Below w.heap.size w W)
    (fun _ _ _ => False)
    ?hI
    (fun _ _ _ _ _ hs _ _ => hs)
    ⟨hbx3, hb3⟩
    (fun x => { tmps := #[.int .u64 s, .slice A n c, undef, undef, .int .u64 0, .pointer (some ⟨w.heap.size, 0, none⟩), undef, .int .u64 (x.2 : Nat), .int .u64 s, .slice A n c, .int .i64 n, .int .u64 n, .int .u64 ll, .int .u64 hh, .slice A n c,
      .func (.func 27) #[] #[.pointer (some ⟨w.heap.size + 1, 0, none⟩)], .int .i64 (x.1 : Nat), .int .u64 (x.2 : Nat), undef, undef, undef, undef, undef, undef, undef, undef, undef], defers := [] }) ?assign ?body ?done ?stop
  case hKb =>
    intro W l o o' hl hh' hc hw
    exact ⟨belowK_b (w := w) (by omega) W l o o' (by omega) hh' hc hw, World.putObj_heap_other (by omega)⟩
  case hI => exact OwnFrom.and (fun s X Y row hs hg hr => hs.kept hg (fun e => by have := (hr _ e.symm).1; omega)) (ownFrom_below (Nat.le_refl _) (by omega))
  case hseq =>
    intro yl J Jx W hW hJ hx hY h0
    exact words1_in _ yl (by omega) l A n c _ w.heap.size hnc hnn J Jx W hY ((h.below hb3 (Nat.le_refl _)).below hW (by omega)) ((hW.block _ hp1.lt).trans hp1) h0
  case assign =>
    intro yl x W K hK
    gi_wp2
    exact hK
  case body =>
    rintro yl pre ⟨x, y⟩ W ⟨hbx, hB⟩ hlt
    have hc := hbx.cell
    have hfx := hbx.frozen
    gi_wp2
    refine ⟨(KeepsOthers.setCell _ _ _).trans (KeepsOthers.setCell _ _ _), ⟨((Below.refl _ _).setCell (p := ⟨w.heap.size, 0, none⟩) (Nat.le_refl _) _).trans ((Below.refl _ _).setCell (p := ⟨w.heap.size, 0, none⟩) (Nat.le_refl _) _),
      (Below.heap_setCell _ _ _ _ (by show w.heap.size + 1 ≠ w.heap.size; omega)).trans (Below.heap_setCell _ _ _ _ (by show w.heap.size + 1 ≠ w.heap.size; omega))⟩, ?_, (hB.setCell (p := ⟨w.heap.size, 0, none⟩) (Nat.le_refl _) _).setCell (p := ⟨w.heap.size, 0, none⟩) (Nat.le_refl _) _⟩
    rw [List.foldl_append]
    exact (hbx.set _).set _
  case done =>
    rintro D ys W hD rfl ⟨hbx, hB⟩ hK
    have hc := hbx.cell
    gi_wp2
    refine ⟨by simp, .inl ⟨_, _, rfl, run_takeDeferred hK, ?_⟩⟩
    exact ⟨_, results_tmp rfl _ _ _, rfl, hB.trans (belowK_b (w := w) (Nat.le_refl _) W D _ _ (by omega) hK rfl rfl)⟩
  case stop =>
    rintro D c pre W _ _ h _
    exact h.elim
end Go.Proofs.Yticjecfbjmibaaa
