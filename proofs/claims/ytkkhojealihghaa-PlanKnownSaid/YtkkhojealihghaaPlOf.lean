/- Package plan: Of. For every row of items. -/
import Derived.Test.YtkkhojealihghaaPlLay2
import Derived.Test.YtkkhojealihghaaRes
namespace Go.Proofs.Ytkkhojealihghaa
open Go.RowKit
open Go.ChangeMaps (setBlock)
attribute [local go_sem] Oper.semAt_some

/-- a plan of the first j items -/
def layTo (its : List It) (at_ : List Int) (limit first j : Nat) : PSt := (List.range j).foldl (fun st i => if keptI its at_ i then st.lay limit first (itAt its i) i else st) ⟨[], [], []⟩
theorem layTo_succ (its : List It) (at_ : List Int) (limit first j : Nat) : layTo its at_ limit first (j + 1) = if keptI its at_ j then (layTo its at_ limit first j).lay limit first (itAt its j) j else layTo its at_ limit first j := by
  unfold layTo
  rw [List.range_succ, List.foldl_append]
  rfl
structure Lim (limit first j : Nat) (st : PSt) : Prop where
  seals : st.seals.length ≤ j
  steps : st.steps.length ≤ j
  each : ∀ s ∈ st.seals, s.id < first + j ∧ s.z ≤ limit ∧ s.m ≤ j
theorem Lim.more {limit first j k : Nat} {st : PSt} (h : Lim limit first j st) (hk : j ≤ k) : Lim limit first k st :=
  ⟨Nat.le_trans h.seals hk, Nat.le_trans h.steps hk, fun s hs => by have := h.each s hs; omega⟩
theorem open_snoc (limit first : Nat) (st : PSt) (x : It) : ∃ R s, st.open_ limit first x = R ++ [s] ∧ (((st.seals.getLast? = none ∨ ∃ t, st.seals.getLast? = some t ∧ (limit : Int) < (t.z : Int) + x.z) ∧ R = st.seals ∧ s = ⟨first + st.seals.length, 16, 0, x.q, 0⟩) ∨ (st.seals = R ++ [s] ∧ ¬ (limit : Int) < (s.z : Int) + x.z)) := by
  unfold PSt.open_
  cases hl : st.seals.getLast? with
  | none => exact ⟨st.seals, ⟨first + st.seals.length, 16, 0, x.q, 0⟩, by
      have : st.seals = [] := by simpa using hl
      simp [this], .inl ⟨.inl rfl, rfl, rfl⟩⟩
  | some t =>
    by_cases hlt : (limit : Int) < (t.z : Int) + x.z
    · exact ⟨st.seals, ⟨first + st.seals.length, 16, 0, x.q, 0⟩, by simp [hlt], .inl ⟨.inr ⟨t, rfl, hlt⟩, rfl, rfl⟩⟩
    · obtain ⟨R, hR⟩ := List.getLast?_eq_some_iff.1 hl
      exact ⟨R, t, by simp only [hlt, if_false]; exact hR, .inr ⟨hR, hlt⟩⟩
/-- an item laid: the last seal -/
theorem lay_eq {limit first : Nat} {st : PSt} {x : It} {R : List Se} {s : Se} (h : st.open_ limit first x = R ++ [s]) (i : Nat) : st.lay limit first x i = ⟨st.steps ++ [⟨i, (s.id, s.z), (mget st.ahead x.l).getD (0, 0)⟩], R ++ [⟨s.id, s.z + x.z.toNat, s.m + 1, s.f, x.q⟩], mput x.l (s.id, s.z) st.ahead⟩ := by
  unfold PSt.lay
  simp only [h, List.dropLast_concat, List.getLast?_append, List.getLast?_singleton, Option.some_or, Option.getD_some]
theorem Lim.lay {limit first j : Nat} {st : PSt} (h : Lim limit first j st) (hl : 4096 ≤ limit) (x : It) (hz : 25 ≤ x.z ∧ x.z ≤ 1113) (i : Nat) : Lim limit first (j + 1) (st.lay limit first x i) := by
  obtain ⟨R, s, ho, hc⟩ := open_snoc limit first st x
  rw [lay_eq ho]
  have hs1 := h.seals
  have hs2 := h.steps
  rcases hc with ⟨-, rfl, rfl⟩ | ⟨hR, hlt⟩
  · refine ⟨by simp; omega, by simp; omega, fun t ht => ?_⟩
    rcases List.mem_append.1 ht with ht | ht
    · have := h.each t ht; omega
    · rw [List.mem_singleton.1 ht]
      show first + st.seals.length < _ ∧ 16 + x.z.toNat ≤ _ ∧ 0 + 1 ≤ _
      omega
  · rw [hR] at hs1
    simp only [List.length_append, List.length_singleton] at hs1
    refine ⟨by simp; omega, by simp; omega, fun t ht => ?_⟩
    have he := h.each
    rw [hR] at he
    rcases List.mem_append.1 ht with ht | ht
    · have := he t (List.mem_append_left _ ht); omega
    · have h9 := he s (by simp)
      rw [List.mem_singleton.1 ht]
      show s.id < _ ∧ s.z + x.z.toNat ≤ _ ∧ s.m + 1 ≤ _
      omega
theorem may_zs {its : List It} (h : mayP its = true) {i : Nat} (hi : i < its.length) : 25 ≤ (itAt its i).z ∧ (itAt its i).z ≤ 1113 := by
  have := mayIt_at its 0 h i (its[i]'hi) (List.getElem?_eq_getElem hi)
  rw [itAt_eq (List.getElem?_eq_getElem hi)]
  exact ⟨this.2.2.2.2.1, this.2.2.2.2.2.1⟩
theorem layTo_lim {its : List It} (h : mayP its = true) (at_ : List Int) {limit : Nat} (first : Nat) (hl : 4096 ≤ limit) : ∀ j, j ≤ its.length → Lim limit first j (layTo its at_ limit first j)
  | 0, _ => ⟨Nat.le_refl _, Nat.le_refl _, fun s hs => by cases hs⟩
  | j + 1, hj => by
    rw [layTo_succ]
    have ih := layTo_lim h at_ first hl j (by omega)
    cases hk : keptI its at_ j with
    | false => rw [if_neg (by simp)]; exact ih.more (by omega)
    | true => rw [if_pos rfl]; exact ih.lay hl _ (may_zs h (by omega)) j
/-- an error's number, and the plan -/
def planOf (its : List It) (at_ : List Int) (limit : Int) (first : Nat) : Nat × PSt :=
  if mayP its = false ∨ limit < 4096 ∨ 16777216 < limit ∨ first < 1 ∨ 16777215 < first then (1, ⟨[], [], []⟩)
  else
    let st := layTo its at_ limit.toNat first its.length
    if 200 < st.seals.length ∨ ∃ s, st.seals.getLast? = some s ∧ 16777215 ≤ s.id then (7, ⟨[], [], []⟩) else (0, st)
def RetPlan (w : World) (r : Nat × PSt) (e : Ending) (w' : World) : Prop :=
  ∃ vs vl, e = .returned (.tuple #[.agg #[vs, vl], .int .i64 (r.1 : Int)]) ∧ Ow w' w.heap.size 43 5 vs r.2.steps.length (spCells r.2.steps) ∧ Ow w' w.heap.size 70 5 vl r.2.seals.length (seCells r.2.seals) ∧ Below w.heap.size w w'

theorem Try.szPlan : (Try.prog.info? 33).map (·.size) = some 2 := by kernel_rfl
theorem four_blk (w : World) (t1 : TypeId) (c1 : Array Value) (t2 : TypeId) (c2 : Array Value) (t3 : TypeId) (c3 : Array Value) (t4 : TypeId) (c4 : Array Value) :
    Blk ((((w.alloc (.cells c1 t1)).alloc (.cells c2 t2)).alloc (.cells c3 t3)).alloc (.cells c4 t4)) w.heap.size t1 c1 ∧ Blk ((((w.alloc (.cells c1 t1)).alloc (.cells c2 t2)).alloc (.cells c3 t3)).alloc (.cells c4 t4)) (w.heap.size + 1) t2 c2 ∧ Blk ((((w.alloc (.cells c1 t1)).alloc (.cells c2 t2)).alloc (.cells c3 t3)).alloc (.cells c4 t4)) (w.heap.size + 1 + 1) t3 c3 ∧ Blk ((((w.alloc (.cells c1 t1)).alloc (.cells c2 t2)).alloc (.cells c3 t3)).alloc (.cells c4 t4)) (w.heap.size + 1 + 1 + 1) t4 c4 ∧ Below w.heap.size w ((((w.alloc (.cells c1 t1)).alloc (.cells c2 t2)).alloc (.cells c3 t3)).alloc (.cells c4 t4)) ∧ ((((w.alloc (.cells c1 t1)).alloc (.cells c2 t2)).alloc (.cells c3 t3)).alloc (.cells c4 t4)).heap.size = w.heap.size + 1 + 1 + 1 + 1 := by
  have e : ∀ (W : World) (o : Obj), (W.alloc o).heap.size = W.heap.size + 1 := fun W o => by simp
  have a1 := Blk.new w t1 c1
  have a2 := Blk.new (w.alloc (.cells c1 t1)) t2 c2
  have a3 := Blk.new ((w.alloc (.cells c1 t1)).alloc (.cells c2 t2)) t3 c3
  have a4 := Blk.new (((w.alloc (.cells c1 t1)).alloc (.cells c2 t2)).alloc (.cells c3 t3)) t4 c4
  rw [e] at a2
  rw [e, e] at a3
  rw [e, e, e] at a4
  refine ⟨((a1.alloc _).alloc _).alloc _, (a2.alloc _).alloc _, a3.alloc _, a4, belowAlloc (belowAlloc (belowAlloc (belowAlloc (Below.refl _ _) _) _) _) _, ?_⟩
  rw [e, e, e, e]
theorem pm_new (w : World) : Pm (((w.alloc (.cells #[.slice none 0 0, .slice none 0 0] 33)).alloc (.map #[] 0)).alloc (.cells #[.map (some (w.heap.size + 1))] 84)) w.heap.size w.heap.size (w.heap.size + 1 + 1) (w.heap.size + 1) ⟨.slice none 0 0, 0, []⟩ (.slice none 0 0) (.slice none 0 0) ⟨[], [], []⟩ ∧ Below w.heap.size w (((w.alloc (.cells #[.slice none 0 0, .slice none 0 0] 33)).alloc (.map #[] 0)).alloc (.cells #[.map (some (w.heap.size + 1))] 84)) := by
  have e : ∀ (W : World) (o : Obj), (W.alloc o).heap.size = W.heap.size + 1 := fun W o => by simp
  have a1 := Blk.new w 33 #[.slice none 0 0, .slice none 0 0]
  have a2 := Mt.new (w.alloc (.cells #[.slice none 0 0, .slice none 0 0] 33)) Try.prog 88 (Ok := KOk) (ek := kpv) (ev := locP)
  have a3 := Blk.new ((w.alloc (.cells #[.slice none 0 0, .slice none 0 0] 33)).alloc (.map #[] 0)) 84 #[.map (some (w.heap.size + 1))]
  rw [e] at a2
  rw [e, e] at a3
  exact ⟨⟨⟨Nat.le_refl _, by omega, by omega⟩, (a1.alloc _).alloc _, ⟨by decide, .inl ⟨rfl, rfl⟩⟩, ⟨by decide, .inl ⟨rfl, rfl⟩⟩, a3, a2.alloc _, ⟨by decide, .inl ⟨rfl, rfl⟩⟩⟩, belowAlloc (belowAlloc (belowAlloc (Below.refl _ _) _) _) _⟩
theorem Pm.withRest {w : World} {B gp ga bm : Nat} {R0 : Ro} {vs vl : Value} {st : PSt} (h : Pm w B gp ga bm R0 vs vl st) {R1 : Ro} (r : Ow w B 4 1 R1.v R1.n R1.xs) : Pm w B gp ga bm R1 vs vl st := ⟨h.lo, h.blk, h.steps, h.seals, h.box, h.map, r⟩
theorem keptP_len (its : List It) (at_ : List Int) : (keptP its at_).length = its.length := by unfold keptP; simp
theorem keptP_get (its : List It) (at_ : List Int) {j : Nat} (h : j < its.length) : (keptP its at_)[j]? = some (keptI its at_ j) := by unfold keptP; rw [List.getElem?_map, List.getElem?_range h]; rfl
set_option maxRecDepth 100000 in
set_option maxHeartbeats 16000000 in
theorem planOf_any (X : List ItX) (A : Option Addr) (n c : Nat) (at_ : List Int) (A' : Option Addr) (n' c' : Nat) (limit : Int) (first : Nat) (w : World) (hn : X.length = n) (hnm : n ≤ 1000) (hr : Rd w w.heap.size 4 A n (itCells X)) (hx : ∀ x ∈ X, x.ok w) (hz : ∀ x ∈ X, x.it.l.length ≤ 9223372036854775807)
    (hn' : at_.length = n') (hr' : Rd w w.heap.size 1 A' n' (at_.map (.int .u64))) :
    Calls Try.prog 9 #[.slice A n c, .slice A' n' c', .int .i64 limit, .int .u32 (first : Int)] w (RetPlan w (planOf (X.map ItX.it) at_ limit first)) := by
  obtain ⟨its, hits⟩ : ∃ l, l = X.map ItX.it := ⟨_, rfl⟩
  rw [← hits]
  have HITS := Lib.hid hits
  have HN := Lib.hid hn
  have HR := Lib.hid hr
  have HX := Lib.hid hx
  have HZ := Lib.hid hz
  have HN' := Lib.hid hn'
  have HR' := Lib.hid hr'
  have HNM := Lib.hid hnm
  obtain ⟨q4, q6, q7, q8, b4, z4⟩ := four_blk w 25 #[.slice A n c] 3 #[.int .i64 limit] 37 #[.int .u32 (first : Int)] 33 #[.slice none 0 0, .slice none 0 0]
  clear hits hn hr hx hz hn' hr' hnm
  go_enter Try.func9, Try.ntmps9
  go_upto_region 1 with fail
  generalize (((w.alloc (.cells #[.slice A n c] 25)).alloc (.cells #[.int .i64 limit] 3)).alloc (.cells #[.int .u32 (first : Int)] 37)).alloc (.cells #[.slice none 0 0, .slice none 0 0] 33) = w4 at *
  obtain ⟨g4, hg4⟩ : ∃ g, g = w.heap.size := ⟨_, rfl⟩
  obtain ⟨g6, hg6⟩ : ∃ g, g = w.heap.size + 1 := ⟨_, rfl⟩
  obtain ⟨g7, hg7⟩ : ∃ g, g = w.heap.size + 1 + 1 := ⟨_, rfl⟩
  obtain ⟨g8, hg8⟩ : ∃ g, g = w.heap.size + 1 + 1 + 1 := ⟨_, rfl⟩
  rw [← hg8] at q8 ⊢
  rw [← hg7] at q7 ⊢
  rw [← hg6] at q6 ⊢
  rw [← hg4] at q4 ⊢
  have HG := Lib.hid (show w.heap.size ≤ g4 ∧ g4 < g6 ∧ g6 < g7 ∧ g7 < g8 ∧ g8 < w4.heap.size from ⟨by omega, by omega, by omega, by omega, by omega⟩)
  have B4 := Lib.hid b4
  have Q4 := Lib.hid q4
  have Q6 := Lib.hid q6
  have Q7 := Lib.hid q7
  have Q8 := Lib.hid q8
  have cc4 := q4.cell 0
  have MK := Lib.hid (mayP_any X A n c w4 HN.out (by have := HNM.out; omega) ((HR.out.below b4 (Nat.le_refl _)).more b4.size) HZ.out)
  obtain ⟨mb, hmb⟩ : ∃ b, b = mayP its := ⟨_, rfl⟩
  have HMB := Lib.hid hmb
  rw [← HITS.out, ← hmb] at MK
  clear hg4 hg6 hg7 hg8 q4 q6 q7 q8 b4 z4 hmb
  go_wp2_with fail
  refine MK.out.mono ?_
  rintro e w5 ⟨rfl, b5⟩
  have Q45 := Lib.hid (Q4.out.after b5)
  have Q65 := Lib.hid (Q6.out.after b5)
  have Q75 := Lib.hid (Q7.out.after b5)
  have Q85 := Lib.hid (Q8.out.after b5)
  have c65 := Q65.out.cell 0
  have c75 := Q75.out.cell 0
  have B5 := Lib.hid (belowGo B4.out b5)
  have HG5 := Lib.hid (show g8 < w5.heap.size from Nat.lt_of_lt_of_le HG.out.2.2.2.2 b5.size)
  clear cc4 MK Q4 Q6 Q7 Q8 b5 B4
  have HBAD : Hid ((mb = false ∨ limit < 4096 ∨ 16777216 < limit ∨ first < 1 ∨ 16777215 < first) → planOf its at_ limit first = (1, ⟨[], [], []⟩)) := Lib.hid (fun h => by unfold planOf; rw [← HMB.out, if_pos h])
  have RB : Hid (∀ W, Below w.heap.size w W → (mb = false ∨ limit < 4096 ∨ 16777216 < limit ∨ first < 1 ∨ 16777215 < first) → ∀ e, e = .returned (.tuple #[.agg #[.slice none 0 0, .slice none 0 0], .int .i64 1]) → RetPlan w (planOf its at_ limit first) e W) := Lib.hid (fun W hW h e he => by
    rw [HBAD.out h]
    exact ⟨_, _, he, ⟨by decide, .inl ⟨rfl, rfl⟩⟩, ⟨by decide, .inl ⟨rfl, rfl⟩⟩, hW⟩)
  cases mb with
  | false =>
    go_wp2_with (first
      | (refine wpList_storeB rfl 33 (.tmp 8) (.tmp 35) rfl rfl rfl Q85.out Try.szPlan rfl (by simp [Value.oneCell']) ?_)
      | fail)
    exact bodyPost_ret (results_cell2 (cs := #[.slice none 0 0, .slice none 0 0]) rfl rfl (res_load (Q85.out.row _) Try.underlying33 rfl Try.szPlan)) rfl (RB.out _ (row_below B5.out (Nat.le_trans HG.out.1 (by have := HG.out; omega)) _) (.inl trivial) _ rfl)
  | true =>
    have HQ := Lib.hid (trivial)
    clear HQ
    by_cases l1 : limit < 4096
    · clear HG5
      go_wp2_with (first
        | (refine wpList_storeB rfl 33 (.tmp 8) (.tmp 35) rfl rfl rfl Q85.out Try.szPlan rfl (by simp [Value.oneCell']) ?_)
        | fail)
      exact bodyPost_ret (results_cell2 (cs := #[.slice none 0 0, .slice none 0 0]) rfl rfl (res_load (Q85.out.row _) Try.underlying33 rfl Try.szPlan)) rfl (RB.out _ (row_below B5.out (Nat.le_trans HG.out.1 (by have := HG.out; omega)) _) (.inr (.inl l1)) _ rfl)
    · have l1' : ¬ (limit < 4096) := l1
      by_cases l2 : 16777216 < limit
      · clear HG5
        go_wp2_with (first
          | (refine wpList_storeB rfl 33 (.tmp 8) (.tmp 35) rfl rfl rfl Q85.out Try.szPlan rfl (by simp [Value.oneCell']) ?_)
          | fail)
        exact bodyPost_ret (results_cell2 (cs := #[.slice none 0 0, .slice none 0 0]) rfl rfl (res_load (Q85.out.row _) Try.underlying33 rfl Try.szPlan)) rfl (RB.out _ (row_below B5.out (Nat.le_trans HG.out.1 (by have := HG.out; omega)) _) (.inr (.inr (.inl l2))) _ rfl)
      · by_cases l3 : first < 1
        · have l3' : (first : Int) < 1 := by omega
          clear HG5
          go_wp2_with (first
            | (refine wpList_storeB rfl 33 (.tmp 8) (.tmp 35) rfl rfl rfl Q85.out Try.szPlan rfl (by simp [Value.oneCell']) ?_)
            | fail)
          exact bodyPost_ret (results_cell2 (cs := #[.slice none 0 0, .slice none 0 0]) rfl rfl (res_load (Q85.out.row _) Try.underlying33 rfl Try.szPlan)) rfl (RB.out _ (row_below B5.out (Nat.le_trans HG.out.1 (by have := HG.out; omega)) _) (.inr (.inr (.inr (.inl l3)))) _ rfl)
        · have l3' : ¬ ((first : Int) < 1) := by omega
          by_cases l4 : 16777215 < first
          · have l4' : (16777215 : Int) < (first : Int) := by omega
            clear HG5
            go_wp2_with (first
              | (refine wpList_storeB rfl 33 (.tmp 8) (.tmp 35) rfl rfl rfl Q85.out Try.szPlan rfl (by simp [Value.oneCell']) ?_)
              | fail)
            exact bodyPost_ret (results_cell2 (cs := #[.slice none 0 0, .slice none 0 0]) rfl rfl (res_load (Q85.out.row _) Try.underlying33 rfl Try.szPlan)) rfl (RB.out _ (row_below B5.out (Nat.le_trans HG.out.1 (by have := HG.out; omega)) _) (.inr (.inr (.inr (.inr l4)))) _ rfl)
          · have l4' : ¬ ((16777215 : Int) < (first : Int)) := by omega
            go_upto_region 3 with fail
            generalize decide (limit < 4096) = d1
            generalize decide (16777216 < limit) = d2
            generalize decide ((first : Int) < 1) = d3
            generalize decide (16777215 < (first : Int)) = d4
            have hmk : ∀ W, (Instr.makeMap 84 none).run Try.prog W = .ok (.map (some W.heap.size)) (W.alloc (.map #[] 0)) := fun W => run_makeMap _ W
            have hmf : ∀ (fn : Fn) (first cap : Array Value) (w : World), (Instr.makeFunc fn first cap).run Try.prog w = .ok (.func fn first cap) w := fun _ _ _ _ => rfl
            go_upto_region 6 with fail
            clear hmk hmf
            obtain ⟨pm6, b6⟩ := pm_new w5
            generalize ((w5.alloc (.cells #[.slice none 0 0, .slice none 0 0] 33)).alloc (.map #[] 0)).alloc (.cells #[.map (some (w5.heap.size + 1))] 84) = w6 at *
            obtain ⟨gp, hgp⟩ : ∃ g, g = w5.heap.size := ⟨_, rfl⟩
            obtain ⟨bm, hbm⟩ : ∃ g, g = w5.heap.size + 1 := ⟨_, rfl⟩
            obtain ⟨ga, hga⟩ : ∃ g, g = w5.heap.size + 1 + 1 := ⟨_, rfl⟩
            rw [← hga, ← hbm, ← hgp] at pm6 ⊢
            rw [← hgp] at b6
            have HGP := Lib.hid hgp
            have hmay : mayP (X.map ItX.it) = true := by rw [← HITS.out]; exact HMB.out.symm
            have B6 := Lib.hid (belowGo B5.out (hgp ▸ b6))
            have kp := keptP_any X A n c at_ A' n' c' w6 HN.out HNM.out hmay ((HR.out.below B6.out (Nat.le_refl _)).more B6.out.size) (fun x hx => (HX.out x hx).after B6.out) HN'.out ((HR'.out.below B6.out (Nat.le_refl _)).more B6.out.size)
            rw [← HITS.out] at kp
            have KP := Lib.hid kp
            have cc4 := ((Q45.out.kp (s := []) (Kp.of_below b6 (fun j hj _ => by rw [hgp]; exact hj)) (by simp))).cell 0
            have PM6 := Lib.hid pm6
            have HB6 := Lib.hid b6
            clear kp pm6 hgp hbm hga b6 c65 c75
            go_wp2_with fail
            refine KP.out.mono ?_
            rintro e w7 ⟨vk, rfl, ok, b7⟩
            obtain ⟨Ak, ck, rfl, -⟩ := own_cap ok
            obtain ⟨R0, hR0⟩ : ∃ R : Ro, R = ⟨.slice Ak n ck, n, (keptP its at_).map .bool⟩ := ⟨_, rfl⟩
            have HR0 := Lib.hid hR0
            have hB6 : gp ≤ w6.heap.size := Nat.le_trans PM6.out.lo.1 (Nat.le_of_lt PM6.out.blk.lt)
            have PM7 : Hid (Pm w7 gp gp ga bm R0 (.slice none 0 0) (.slice none 0 0) ⟨[], [], []⟩) := Lib.hid (by
              rw [hR0]
              exact (PM6.out.after b7).withRest (own_low ok hB6))
            have HB7 : Hid (Below gp w5 w7) := Lib.hid (belowTrans HB6.out b7 hB6)
            clear KP ok b7 hR0 hB6 cc4 PM6 HB6
            obtain ⟨L, rfl⟩ : ∃ L : Nat, limit = (L : Int) := ⟨limit.toNat, by omega⟩
            have HL := Lib.hid (show 4096 ≤ L ∧ L ≤ 16777216 ∧ 1 ≤ first ∧ first ≤ 16777215 from ⟨by omega, by omega, by omega, by omega⟩)
            have HMAY := Lib.hid hmay
            have hln : its.length = n := by rw [HITS.out, List.length_map, HN.out]
            have HLN := Lib.hid hln
            have HLIM : Hid (∀ j, j ≤ n → Lim L first j (layTo its at_ L first j)) := Lib.hid (fun j hj => layTo_lim (by rw [HITS.out]; exact hmay) at_ first HL.out.1 j (by rw [hln]; exact hj))
            clear hmay hln l1 l1' l2 l3 l3' l4 l4'
            go_wp2_with fail
            go_loopw [42] (fun i wr => ∃ (j : Nat) (vs vl : Value), j ≤ n ∧ i = .int .i64 (j : Int) ∧ Pm wr gp gp ga bm R0 vs vl (layTo its at_ L first j) ∧ Below gp w5 wr) (fun i _ => n - (intOf i).toNat)
            case atStart => exact ⟨0, _, _, Nat.zero_le _, rfl, PM7.out, HB7.out⟩
            case round =>
              clear PM7 HB7
              obtain ⟨j, vs, vl, hj, rfl, pm, hb⟩ := hrel
              have PM := Lib.hid pm
              have HB := Lib.hid hb
              clear pm hb
              have hnm := HNM.out
              by_cases hin : j < n
              · have i1 : (j : Int) < (n : Int) := by omega
                have hro := PM.out.rest
                rw [HR0.out] at hro
                obtain ⟨gk, ck', he, -, -⟩ := own_ptr hro (by show 0 < n; omega)
                injection he with he he2 he3
                subst he he3
                have ckj : wr.cell? ⟨gk, j, none⟩ = some (.bool (keptI its at_ j)) := by
                  have := Ow.cell hro (j := j) (x := .bool (keptI its at_ j)) rfl (by show 0 < n; omega) (by show ((keptP its at_).map Value.bool)[j]? = _; rw [List.getElem?_map, keptP_get its at_ (by rw [HLN.out]; exact hin)]; rfl)
                  rwa [Nat.zero_add] at this
                obtain ⟨kb, hkb⟩ : ∃ b, b = keptI its at_ j := ⟨_, rfl⟩
                rw [← hkb] at ckj
                have HKB := Lib.hid hkb
                clear hro he2 hkb
                cases kb with
                | false =>
                  have HE : Hid (layTo its at_ L first (j + 1) = layTo its at_ L first j) := Lib.hid (by rw [layTo_succ, ← HKB.out, if_neg (by simp)])
                  go_wp2_with fail
                  go_roundw
                  case rel => exact ⟨j + 1, vs, vl, by omega, by go_num, by rw [HE.out]; exact PM.out, HB.out⟩
                  case measure => simp [intOf]; omega
                | true =>
                  obtain ⟨x, hx0⟩ : ∃ x, X[j]? = some x := ⟨X[j]'(by rw [HN.out]; exact hin), List.getElem?_eq_getElem _⟩
                  have hit : its[j]? = some x.it := by rw [HITS.out, List.getElem?_map, hx0]; rfl
                  have hia : itAt its j = x.it := itAt_eq hit
                  have hE : layTo its at_ L first (j + 1) = (layTo its at_ L first j).lay L first x.it j := by rw [layTo_succ, ← HKB.out, if_pos rfl, hia]
                  have HE := Lib.hid hE
                  have hmx := mayIt_at its 0 (by rw [HITS.out]; exact HMAY.out) j x.it hit
                  have hlim := HLIM.out j hj
                  have hB5 : Below w.heap.size w wr := belowGo B5.out (HGP.out ▸ HB.out)
                  have hlay := lay_any (R0 := R0) X A n c L first j x PM.out ⟨HL.out.2.1, HL.out.2.2.2, by have := hlim.seals; omega, by have := hlim.steps; omega, fun s hs => by have := hlim.each s hs; have := HL.out; omega⟩ (Blk.below Q45.out HB.out (by have := HG.out; have := HG5.out; rw [HGP.out]; omega)) (Blk.below Q65.out HB.out (by have := HG.out; have := HG5.out; rw [HGP.out]; omega)) (Blk.below Q75.out HB.out (by have := HG.out; have := HG5.out; rw [HGP.out]; omega)) (by have := HG.out; have := HG5.out; rw [HGP.out]; omega) (by have := HG.out; have := HG5.out; rw [HGP.out]; omega) (by have := HG.out; have := HG5.out; rw [HGP.out]; omega) HN.out hnm ((HR.out.below hB5 (Nat.le_refl _)).more hB5.size) hx0 ⟨(((HX.out x (List.mem_of_getElem? hx0)).1.below hB5 (Nat.le_refl _)).more (by rw [HGP.out]; exact B5.out.size)), (HX.out x (List.mem_of_getElem? hx0)).2⟩ (by have := hmx.1; unfold mayB at this; simp at this; exact this) hmx.2.2.2.2.1 hmx.2.2.2.2.2.1
                  have LAY := Lib.hid hlay
                  clear hx0 hit hia hE hmx hlim hB5 hlay
                  go_wp2_with fail
                  refine LAY.out.mono ?_
                  rintro e w9 ⟨rfl, ⟨vs9, vl9, pm9⟩, b9⟩
                  have HB9 := Lib.hid (HB.out.trans b9)
                  have PM9 := Lib.hid pm9
                  clear pm9 b9 LAY
                  go_wp2_with fail
                  go_roundw
                  case rel => exact ⟨j + 1, vs9, vl9, by omega, by go_num, by rw [HE.out]; exact PM9.out, HB9.out⟩
                  case measure => simp [intOf]; omega
              · obtain rfl : j = n := by omega
                obtain ⟨st, hst⟩ : ∃ s, s = layTo its at_ L first j := ⟨_, rfl⟩
                have HST := Lib.hid hst
                rw [← hst] at PM
                obtain ⟨Al, cl, rfl, -⟩ := own_cap PM.out.seals
                obtain ⟨As, cs, rfl, -⟩ := own_cap PM.out.steps
                obtain ⟨ms, hms⟩ : ∃ k, k = st.steps.length := ⟨_, rfl⟩
                rw [← hms] at PM
                have HMS := Lib.hid hms
                obtain ⟨m, hm⟩ : ∃ k, k = st.seals.length := ⟨_, rfl⟩
                have HM := Lib.hid hm
                have hml : m ≤ 1000 := by rw [hm, hst]; have := (HLIM.out j (Nat.le_refl _)).seals; omega
                rw [← hm] at PM
                have cp1 := PM.out.blk.cell 1
                have HPL : Hid (planOf its at_ (L : Int) first = if 200 < m ∨ ∃ s, st.seals.getLast? = some s ∧ 16777215 ≤ s.id then (7, ⟨[], [], []⟩) else (0, st)) := Lib.hid (by
                  have := HL.out
                  unfold planOf
                  rw [if_neg (by rw [← HMB.out]; simp; omega)]
                  simp only [Int.toNat_natCast, HLN.out]
                  rw [← hst, ← hm])
                have HBW := Lib.hid (belowGo B5.out (HGP.out ▸ HB.out))
                have Q8W := Lib.hid (Blk.below Q85.out HB.out (by have := HG.out; have := HG5.out; rw [HGP.out]; omega))
                have HG8 := Lib.hid (show w.heap.size ≤ g8 by have := HG.out; omega)
                have RF : Hid (∀ W, Below w.heap.size w W → (200 < m ∨ ∃ s, st.seals.getLast? = some s ∧ 16777215 ≤ s.id) → ∀ e, e = .returned (.tuple #[.agg #[.slice none 0 0, .slice none 0 0], .int .i64 7]) → RetPlan w (planOf its at_ (L : Int) first) e W) := Lib.hid (fun W hW h e he => by
                  rw [HPL.out, if_pos h]
                  exact ⟨_, _, he, ⟨by decide, .inl ⟨rfl, rfl⟩⟩, ⟨by decide, .inl ⟨rfl, rfl⟩⟩, hW⟩)
                have ROK : Hid (¬ (200 < m ∨ ∃ s, st.seals.getLast? = some s ∧ 16777215 ≤ s.id) → ∀ e, e = .returned (.tuple #[.agg #[.slice As ms cs, .slice Al m cl], .int .i64 0]) → RetPlan w (planOf its at_ (L : Int) first) e (wr.setRow g8 #[.slice As ms cs, .slice Al m cl])) := Lib.hid (fun h e he => by
                  rw [HPL.out, if_neg h]
                  have hgw : w.heap.size ≤ gp := by rw [HGP.out]; exact B5.out.size
                  have k := kp_row wr g8 #[.slice As ms cs, .slice Al m cl]
                  refine ⟨_, _, he, Ow.kp (own_low PM.out.steps hgw) k (fun i hi hm => own_blk_ne Q8W.out PM.out.steps (by decide) ((List.mem_singleton.1 hm).symm.trans hi.symm)), ?_, row_below HBW.out HG8.out _⟩
                  have := Ow.kp (own_low PM.out.seals hgw) k (fun i hi hm => own_blk_ne Q8W.out PM.out.seals (by decide) ((List.mem_singleton.1 hm).symm.trans hi.symm))
                  exact this)
                have HLD : Hid (∀ (ρ : Operand → Value) (o : Oper), o.op = .load 33 (.tmp 10) → ρ (.tmp 10) = .pointer (some ⟨gp, 0, none⟩) → (execOp ρ o).run Try.prog wr = .ok (.value (.agg #[.slice As ms cs, .slice Al m cl])) wr) := Lib.hid (fun ρ o ho hx => exec_load_blk ho hx PM.out.blk Try.underlying33 rfl Try.szPlan)
                clear hst hm hms HB
                by_cases h2 : 200 < m
                · have i2 : (200 : Int) < (m : Int) := by omega
                  go_wp2_with (first
                    | (refine wpList_storeB rfl 33 (.tmp 8) (.tmp 71) rfl rfl rfl Q8W.out Try.szPlan rfl (by simp [Value.oneCell']) ?_)
                    | fail)
                  exact bodyPost_ret (results_cell2 (cs := #[.slice none 0 0, .slice none 0 0]) rfl rfl (res_load (Q8W.out.row _) Try.underlying33 rfl Try.szPlan)) rfl (RF.out _ (row_below HBW.out HG8.out _) (.inl h2) _ rfl)
                · have i2 : ¬ ((200 : Int) < (m : Int)) := by omega
                  rcases Nat.eq_zero_or_pos m with h0 | h0
                  · subst h0
                    have hs0 : st.seals = [] := List.eq_nil_of_length_eq_zero HM.out.symm
                    have HNO : Hid (¬ (200 < 0 ∨ ∃ s, st.seals.getLast? = some s ∧ 16777215 ≤ s.id)) := Lib.hid (by rw [hs0]; simp)
                    clear hs0
                    go_upto_region 13 with fail
                    go_upto_region 15 with fail
                    go_wp2_with (first
                      | (refine wpList_value rfl (HLD.out _ _ rfl rfl) ?_)
                      | (refine wpList_storeB rfl 33 (.tmp 8) (.tmp 72) rfl rfl rfl Q8W.out Try.szPlan rfl (by simp [Value.oneCell']) ?_)
                      | fail)
                    have hrl := res_load (P := Try.prog) (Q8W.out.row #[.slice As ms cs, .slice Al 0 cl]) Try.underlying33 rfl Try.szPlan
                    exact bodyPost_ret (v := .tuple #[.agg #[.slice As ms cs, .slice Al 0 cl], .int .i64 0]) (results_cell2 (a := 8) (u := 9) rfl rfl hrl) rfl (ROK.out HNO.out _ rfl)
                  · obtain ⟨k, rfl⟩ : ∃ k, m = k + 1 := ⟨m - 1, by omega⟩
                    obtain ⟨s, hs⟩ : ∃ s, st.seals.getLast? = some s := ⟨_, List.getLast?_eq_some_getLast (by intro e; have := HM.out; rw [e] at this; simp at this)⟩
                    have hse := PM.out.seals
                    simp only [← HM.out] at hse
                    obtain ⟨gv, c9, he, -, -⟩ := own_ptr hse (by omega)
                    injection he with he he2 he3
                    subst he he3
                    have hsm : st.seals[k]? = some s := by rw [List.getLast?_eq_getElem?, ← HM.out, Nat.add_sub_cancel] at hs; exact hs
                    have c5 : wr.cell? ⟨gv, k * 5, none⟩ = some (.int .u32 (s.id : Int)) := by
                      have h9 := flatMap_get Se.cells 5 (fun _ => rfl) st.seals k 0 (by omega)
                      have h10 : (seCells st.seals)[k * 5 + 0]? = some (.int .u32 (s.id : Int)) := by unfold seCells; rw [h9, hsm]; rfl
                      have := Ow.cell hse rfl (by omega) h10
                      rwa [Nat.zero_add, Nat.add_zero] at this
                    have hwk : wrap64 (k : Int) = (k : Int) := by unfold wrap64; omega
                    have hki : (k : Int) < (k : Int) + 1 := by omega
                    have hz0 : (0 : Int) < (k : Int) + 1 := by omega
                    have i2' : ¬ ((200 : Int) < (k : Int) + 1) := by omega
                    clear i2 h0
                    have HS := Lib.hid hs
                    clear hs hse he2 hsm
                    by_cases h5 : 16777215 ≤ s.id
                    · have i5 : (16777215 : Int) ≤ (s.id : Int) := by omega
                      go_wp2_with (first
                        | (refine wpList_storeB rfl 33 (.tmp 8) (.tmp 71) rfl rfl rfl Q8W.out Try.szPlan rfl (by simp [Value.oneCell']) ?_)
                        | fail)
                      exact bodyPost_ret (results_cell2 (cs := #[.slice none 0 0, .slice none 0 0]) rfl rfl (res_load (Q8W.out.row _) Try.underlying33 rfl Try.szPlan)) rfl (RF.out _ (row_below HBW.out HG8.out _) (.inr ⟨s, HS.out, h5⟩) _ rfl)
                    · have i5 : ¬ ((16777215 : Int) ≤ (s.id : Int)) := by omega
                      have HNO : Hid (¬ (200 < k + 1 ∨ ∃ s, st.seals.getLast? = some s ∧ 16777215 ≤ s.id)) := Lib.hid (by
                        rintro (h | ⟨t, ht, h⟩)
                        · omega
                        · rw [HS.out] at ht
                          injection ht with ht
                          subst ht
                          omega)
                      go_upto_region 13 with fail
                      go_upto_region 15 with fail
                      go_wp2_with (first
                        | (refine wpList_value rfl (HLD.out _ _ rfl rfl) ?_)
                        | (refine wpList_storeB rfl 33 (.tmp 8) (.tmp 72) rfl rfl rfl Q8W.out Try.szPlan rfl (by simp [Value.oneCell']) ?_)
                        | fail)
                      have hrl := res_load (P := Try.prog) (Q8W.out.row #[.slice As ms cs, .slice (some ⟨gv, 0, none⟩) (k + 1) cl]) Try.underlying33 rfl Try.szPlan
                      exact bodyPost_ret (v := .tuple #[.agg #[.slice As ms cs, .slice (some ⟨gv, 0, none⟩) (k + 1) cl], .int .i64 0]) (results_cell2 (a := 8) (u := 9) rfl rfl hrl) rfl (ROK.out HNO.out _ rfl)
end Go.Proofs.Ytkkhojealihghaa
