/- slices.SortFunc over rows of rows of bytes, by a function that compares bytes: what stands behind it. For every row. -/
import Derived.Test.YtnkkieiofpplgaaSrt
import Derived.Test.YtnkkieiofpplgaaSortD
import Derived.Test.YtnkkieiofpplgaaByt
import Derived.Lib.Bytealg
import Derived.Shelf.SlSortCmp.NoneTotal
import Derived.Test.YtnkkieiofpplgaaCmp
import Derived.Sort.LotA
namespace Go.Proofs.Ytnkkieiofpplgaa
open Go.RowKit
open Go.Sort

theorem cmp_lt : ∀ a b : List UInt8, decide (Lib.compareBytes a b < 0) = ltStr a b
  | [], [] => by simp [Lib.compareBytes, ltStr]
  | [], _ :: _ => by simp [Lib.compareBytes, ltStr]
  | _ :: _, [] => by simp [Lib.compareBytes, ltStr]
  | x :: a, y :: b => by
    have ih := cmp_lt a b
    unfold ltStr at ih ⊢
    unfold Lib.compareBytes
    by_cases h1 : x < y
    · simp [h1, List.cons_lt_cons_iff]
    · by_cases h2 : y < x
      · have : ¬ (x :: a < y :: b) := by
          rw [List.cons_lt_cons_iff]
          rintro (h | ⟨h, _⟩)
          · exact h1 h
          · subst h; exact h1 h2
        simp [h1, h2, this]
      · have he : x = y := UInt8.le_antisymm (UInt8.not_lt.1 h2) (UInt8.not_lt.1 h1)
        subst he
        simp only [h1, if_false]
        rw [ih]
        simp
def kvCmp {X : KV → Prop} (x y : {k : KV // X k}) : Int := Lib.compareBytes x.1.l y.1.l
theorem kv_swo {X : KV → Prop} : SWO (ltOf (kvCmp (X := X))) := by
  have h : ∀ x y, ltOf (kvCmp (X := X)) x y = ltStr x.1.l y.1.l := fun x y => cmp_lt _ _
  refine ⟨fun x => ?_, fun x y z h1 h2 => ?_, fun x y z h1 h2 => ?_⟩
  · rw [h]; exact swo_ltStr.irrefl _
  · rw [h] at *; exact swo_ltStr.trans _ _ _ h1 h2
  · rw [h] at *; exact swo_ltStr.ntrans _ _ _ h1 h2
section
variable {α : Type} [Inhabited α] {enc : α → Value} {w : World} {B g n cap m : Nat} {e : TypeId} {os : Array Obj}
theorem holds_own {xs : List α} (h : Ow w B e 1 (.slice (some ⟨g, 0, none⟩) n cap) n (xs.map enc)) (hn : xs.length = n) : Holds enc w g 0 xs.toArray := by
  rcases h.2 with ⟨h9, _⟩ | ⟨g', cap', cur, hv, hg, hb, h1, h2, h3, h4⟩
  · cases h9
  · injection hv with hv
    injection hv with hv
    injection hv with hv
    subst hv
    intro j hj
    have hj' : j < xs.length := by simpa using hj
    refine ⟨?_, by simp [World.frozen?, hb]⟩
    have h5 : (cur.toList.take (n * 1))[j]? = (xs.map enc)[j]? := by rw [h4]
    rw [List.getElem?_take_of_lt (by omega)] at h5
    simp only [World.cell?, hb, Nat.zero_add]
    simp only [Option.isSome_none, Bool.false_eq_true, if_false]
    rw [← Array.getElem?_toList, h5]
    simp [hj']
theorem heap_srt {cur : Array Value} {fr : Nat × Nat} (d : Array α) (hb : w.heap[g]? = some (.cells cur e fr)) : (sortWorld enc w g 0 m d os).heap[g]? = some (.cells (putCells enc 0 d cur) e fr) := by
  have hg : g < w.heap.size := (Array.getElem?_eq_some_iff.1 hb).1
  unfold sortWorld
  rw [heap_grow_old _ _ (by simpa using hg)]
  simp [putRow, mapBlock, Sort.ahead, Array.getElem?_modify, hb, onCells]
theorem grown_srt (d : Array α) : w.grownBy (sortWorld enc w g 0 m d os) (some g) := by
  refine ⟨rfl, rfl, rfl, by simp [sortWorld], fun k hk hne => ?_⟩
  unfold sortWorld
  rw [heap_grow_old _ _ (by simpa using hk)]
  have : g ≠ k := fun e => hne (by rw [e])
  simp [putRow, mapBlock, Sort.ahead, Array.getElem?_modify, this]
theorem take_put (cur : Array Value) (ts : List α) (h : ts.length ≤ cur.size) : (putCells enc 0 ts.toArray cur).toList.take ts.length = ts.map enc := by
  apply List.ext_getElem?
  intro j
  by_cases hj : j < ts.length
  · rw [List.getElem?_take_of_lt hj, Array.getElem?_toList]
    simp [putCells, hj, show j < cur.size by omega]
  · rw [List.getElem?_take_eq_none (by omega), List.getElem?_eq_none (by simp; omega)]
theorem own_srt {xs : List Value} {ts : List α} (h : Ow w B e 1 (.slice (some ⟨g, 0, none⟩) n cap) n xs) (hn : ts.length = n) : Ow (sortWorld enc w g 0 m ts.toArray os) B e 1 (.slice (some ⟨g, 0, none⟩) n cap) n (ts.map enc) := by
  rcases h.2 with ⟨h9, _⟩ | ⟨g', cap', cur, hv, hg, hb, h1, h2, h3, h4⟩
  · cases h9
  · injection hv with hv hv2 hv3
    injection hv with hv
    injection hv with hv
    subst hv hv3
    exact ⟨by simp [hn], .inr ⟨g, cap, _, rfl, hg, heap_srt _ hb, h1, h2, by simp [putCells, h3], by rw [Nat.mul_one, ← hn]; exact take_put cur ts (by omega)⟩⟩
end
theorem sortB_any (gc : Nat) (eg : ∀ args w, (callFunc gc args).run Try.prog w = .ok (.enter gc args) w)
    (hc : ∀ (a b : List UInt8) (A : Option Addr) (n c : Nat) (A' : Option Addr) (n' c' : Nat) (w : World) (B B' : Nat), Rd w B 1 A n (bcells a) → Rd w B' 1 A' n' (bcells b) → Calls Try.prog gc #[.slice A n c, .slice A' n' c'] w fun e w' => e = .returned (.int .i64 (Lib.compareBytes a b)) ∧ w = w')
    (X : List KV) (v : Value) (B : Nat) (w : World) (ho : Ow w B 36 1 v X.length (X.map KV.v)) (hx : ∀ x ∈ X, x.ok w) (hl : X.length ≤ 1000000) :
    Calls Try.prog 34 #[v, .func (.func gc) #[] #[]] w (RetSort X B v w) := by
  rcases Nat.eq_zero_or_pos X.length with h0 | h0
  · have : X = [] := List.eq_nil_of_length_eq_zero h0
    subst this
    obtain ⟨A, c, rfl, -⟩ := own_cap ho
    refine (AnyF.slices_SortFunc_none { Try.sortB with } A c _ w).mono fun e w' ⟨he, hw⟩ => ?_
    subst hw
    exact ⟨he, [], .refl _, .nil, ho, ⟨rfl, rfl, rfl, Nat.le_refl _, fun _ _ _ => rfl⟩⟩
  · obtain ⟨g, cap, rfl, -, hB⟩ := own_ptr ho h0
    have inh : Inhabited {k : KV // k.ok w} := ⟨⟨X[0]'h0, hx _ (List.getElem_mem h0)⟩⟩
    obtain ⟨Xs, hXs⟩ : ∃ Xs : List {k : KV // k.ok w}, Xs.map Subtype.val = X := ⟨X.attach.map fun x => ⟨x.1, hx x.1 x.2⟩, by rw [List.map_map]; exact List.attach_map_subtype_val X⟩
    have hlen : Xs.length = X.length := by rw [← hXs, List.length_map]
    have hv : Xs.map (fun x => x.1.v) = X.map KV.v := by rw [← hXs, List.map_map]; rfl
    have ho2 : Ow w B 36 1 (.slice (some ⟨g, 0, none⟩) X.length cap) X.length (Xs.map fun x => x.1.v) := by rw [hv]; exact ho
    have hne : ∀ x : {k : KV // k.ok w}, ∀ j, x.1.v.ownBlock = some j → some j ∉ [some g] := fun x j hj hm => by
      rcases own_own_ne ho x.2.1 (by decide) with h1 | h1
      · rw [h1] at hj; cases hj
      · exact h1 (hj.trans (List.mem_singleton.1 hm))
    have hok : ∀ (m : Nat) (os : Array Obj) (dk : Array {k : KV // k.ok w}) (x : {k : KV // k.ok w}), x.1.ok (sortWorld (fun x : {k : KV // k.ok w} => x.1.v) w g 0 m dk os) := fun m os dk x => x.2.kp (Kp.grown (grown_srt dk)) (hne x)
    have hcmp : CmpReads Try.prog gc #[] (fun x : {k : KV // k.ok w} => x.1.v) kvCmp g 0 Xs.toArray.size w := fun m os dk _ x y => by
      have h1 := (hok m os dk x).1
      have h2 := (hok m os dk y).1
      obtain ⟨A, c, e1, -⟩ := own_cap h1
      obtain ⟨A', c', e2, -⟩ := own_cap h2
      rw [e1] at h1
      rw [e2] at h2
      show Calls Try.prog gc #[x.1.v, y.1.v] _ _
      rw [e1, e2]
      refine (hc _ _ A _ c A' _ c' _ _ _ (Rd.of_own h1) (Rd.of_own h2)).mono fun e w' ⟨he, hw⟩ => ⟨he, 0, ?_⟩
      subst hw
      rfl
    have h1 : OneCell (fun x : {k : KV // k.ok w} => x.1.v) := fun x => by
      obtain ⟨A, c, e1, -⟩ := own_cap x.2.1
      show x.1.v.oneCell' = true
      rw [e1]
      rfl
    have hcon := Any.slices_SortFunc Try.sortB (fun x : {k : KV // k.ok w} => x.1.v) h1 kvCmp kv_swo gc #[] g 0 cap Xs.toArray w eg hcmp.lays (holds_own ho2 hlen) (Ow.hi ho g rfl) (by simp; omega)
    rw [show Xs.toArray.size = X.length by simp [hlen]] at hcon
    refine hcon.mono fun e w' ⟨he, d', m, os, hp, hs, hw⟩ => ?_
    subst hw
    have hsz : d'.size = X.length := by rw [hp.1]; simp [hlen]
    have hperm : d'.toList.Perm Xs := by
      have h9 := hp.2.2
      rw [Array.toList_extract, Array.toList_extract] at h9
      simp only [List.extract_eq_take_drop, List.drop_zero, Nat.sub_zero] at h9
      rw [List.take_of_length_le (by simp [hsz]), List.take_of_length_le (by simp [hlen])] at h9
      exact h9
    refine ⟨he, d'.toList.map Subtype.val, (hperm.map _).trans (by rw [hXs]), ?_, ?_, grown_srt _⟩
    · rw [List.pairwise_iff_getElem]
      intro i j hi hj hij
      have hi' : i < d'.size := by simpa using hi
      have hj' : j < d'.size := by simpa using hj
      have h9 := hs i j (Nat.zero_le _) hij (by omega)
      rw [getElem!_pos d' j hj', getElem!_pos d' i hi'] at h9
      have h8 := (cmp_lt _ _).symm.trans h9
      simp only [List.getElem_map, Array.getElem_toList]
      simpa [ltStr] using h8
    · have h9 := own_srt (enc := fun x : {k : KV // k.ok w} => x.1.v) (m := m) (os := os) (ts := d'.toList) ho (by simp [hsz])
      rw [List.map_map]
      exact h9
/-- bytes.Compare leaves the world as it was -/
theorem compare_w (a b : List UInt8) (A : Option Addr) (n c : Nat) (A' : Option Addr) (n' c' : Nat) (w : World) {B B' : Nat} (h : Rd w B 1 A n (bcells a)) (h' : Rd w B' 1 A' n' (bcells b)) :
    Calls Try.prog 47 #[.slice A n c, .slice A' n' c'] w fun e w' => e = .returned (.int .i64 (Lib.compareBytes a b)) ∧ w = w' := by
  have e1 := run_bytesOf (P := Try.prog) (c := c) h
  have e2 := run_bytesOf (P := Try.prog) (c := c') h'
  have e3 : (Extern.BytealgCompare.compare #[.slice A n c, .slice A' n' c']).run Try.prog w = .ok (.int .i64 (Lib.compareBytes a b)) w := by
    change Sem.run Try.prog (do pure (goInt (Extern.BytealgCompare.cmp (← Extern.Bytes.bytesOf (.slice A n c)) (← Extern.Bytes.bytesOf (.slice A' n' c'))))) w = _
    simp only [Sem.run_bind, Sem.run_pure, e1, e2, Result.andThen, Lib.cmp_eq]
    rfl
  clear e1 e2
  go_enter Try.func47, Try.ntmps47
  go_wp2
  rw [run_callFunc_extern Try.func61 (by kernel_rfl) (by kernel_rfl) (by kernel_rfl) (e := Extern.BytealgCompare.compare) (by kernel_rfl), e3]
  simp only [Result.andThen]
  rw [Oper.upon_value]
  go_wp2
  go_ret
  exact ⟨rfl, rfl⟩
theorem keyCmp_w (a b : List UInt8) (A : Option Addr) (n c : Nat) (A' : Option Addr) (n' c' : Nat) (w : World) (B B' : Nat) (h : Rd w B 1 A n (bcells a)) (h' : Rd w B' 1 A' n' (bcells b)) :
    Calls Try.prog 35 #[.slice A n c, .slice A' n' c'] w fun e w' => e = .returned (.int .i64 (Lib.compareBytes a b)) ∧ w = w' := by
  have H := Lib.hid (compare_w a b A n c A' n' c' w h h')
  generalize Lib.compareBytes a b = x at *
  go_enter Try.func35, Try.ntmps35
  go_wp2_with fail
  refine H.out.mono ?_
  rintro e w1 ⟨rfl, rfl⟩
  go_wp2
  go_ret
  exact ⟨rfl, rfl⟩
theorem sortK_any (X : List KV) (v : Value) (B : Nat) (w : World) (ho : Ow w B 36 1 v X.length (X.map KV.v)) (hx : ∀ x ∈ X, x.ok w) (hl : X.length ≤ 1000000) :
    Calls Try.prog 34 #[v, .func (.func 35) #[] #[]] w (RetSort X B v w) :=
  sortB_any 35 (fun args w => enters_of Try.func35 (by kernel_rfl) rfl args w) keyCmp_w X v B w ho hx hl
end Go.Proofs.Ytnkkieiofpplgaa
