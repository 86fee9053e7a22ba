/-
  Texts of the proof, part 18: the machine, contracts of functions, plain laws. (Own work.)
-/
import Derived.Test.YtkkpcbklhkfohaaGreatG15TopTurns
import Derived.Tactics
import Derived.Tactics2
import Derived.WalkKit
import Derived.WalkSpells
import Derived.Laws.CopyRow

namespace Go.Vm
open Go.Proofs Go.RowKit
def key49 : Code := .seq (.region 0 #[{ dst := some 2, op := .alloc 115, type := 0, pos := "stage.go:90", after := #[], guard := none }] false)
  (.seq (.region 1 #[{ dst := some 3, op := .alloc 115, type := 0, pos := "stage.go:91", after := #[], guard := none }] false)
  (.seq (.region 2 #[{ dst := some 4, op := .slice 115 (.tmp 3) none none none, type := 30, pos := "stage.go:92", after := #[], guard := none },
      { dst := some 5, op := .move (.tmp 0), type := 30, pos := "stage.go:92", after := #[], guard := none },
      { dst := some 6, op := .call { callee := .builtin .copy, args := #[.tmp 4, .tmp 5], argTypes := #[30, 30] }, type := 3, pos := "stage.go:92", after := #[{ on := 0, ground := .data }, { on := 1, ground := .data }], guard := none }] false)
  (.seq (.region 3 #[{ dst := some 7, op := .load 115 (.tmp 3), type := 115, pos := "stage.go:93", after := #[], guard := none },
      { dst := none, op := .store 115 (.tmp 2) (.tmp 7), type := 0, pos := "stage.go:93", after := #[{ on := 0, ground := .data }, { on := 0, ground := .phase }], guard := none }] false) .ret)))
def kV (p q : Int) : Array Value := #[.int .i64 p, .int .i64 q, .int .i64 0, .int .i64 0, .int .i64 0]
theorem cell_alloc {w : World} {b j : Nat} {o : Obj} {v : Value} (h : w.cell? ⟨b, j, none⟩ = some v) : (w.alloc o).cell? ⟨b, j, none⟩ = some v := by
 rw [cell_eq] at h ⊢
 have hb : b < w.heap.size := by
  rcases Nat.lt_or_ge b w.heap.size with h' | h'
  ·exact h'
  ·rw [Array.getElem?_eq_none h'] at h; cases h
 have e : (w.alloc o).heap[b]? = w.heap[b]? := by
  show (w.heap.push o)[b]? = _
  rw [Array.getElem?_push_lt hb]; simp [hb]
 rw [e]; exact h
theorem store_row {P : Program} {w : World} {g o : Nat} {cur : Array Value} {t : TypeId} {v : Value} (hg : w.heap[g]? = some (.cells cur t (0, 0))) (ho : o < cur.size) (hv : v.oneCell' = true) :
  (store ⟨g, o, none⟩ v).run P w = .ok () (w.setRow g (cur.setIfInBounds o v)) := by
 have hcell : w.cell? ⟨g, o, none⟩ = some cur[o] := by simp [World.cell?, hg, ho]
 have hfro : w.frozen? ⟨g, o, none⟩ = false := by simp [World.frozen?, hg]
 rw [run_store P w _ v _ hv, hcell]
 simp [hfro, setCell_eq_setRow w g o cur t (0, 0) v hg]
theorem store_row2 {P : Program} {w : World} {g o : Nat} {c0 cur : Array Value} {t : TypeId} {v : Value} (hg : w.heap[g]? = some (.cells c0 t (0, 0))) (ho : o < cur.size) (hv : v.oneCell' = true) :
  (store ⟨g, o, none⟩ v).run P (w.setRow g cur) = .ok () (w.setRow g (cur.setIfInBounds o v)) := by
 rw [store_row (setRow_heap w g c0 _ t _ hg) ho hv, setRow_setRow]
def z5 : Array Value := #[.int .i64 0, .int .i64 0, .int .i64 0, .int .i64 0, .int .i64 0]
theorem copy_key {w : World} {b o cap : Nat} {p q : Int} (hp : w.cell? ⟨b, o, none⟩ = some (.int .i64 p)) (hq : w.cell? ⟨b, o + 1, none⟩ = some (.int .i64 q)) :
  (Builtin.copy_ #[30, 30] 3 #[.slice (some ⟨w.heap.size + 1, 0, none⟩) 5 5, .slice (some ⟨b, o, none⟩) 2 cap]).run Tryz.prog ((w.alloc (.cells z5 115)).alloc (.cells z5 115)) =
   .ok (goInt 2) (((w.alloc (.cells z5 115)).alloc (.cells z5 115)).setRow (w.heap.size + 1) (kV p q)) := by
 have hsz : (w.alloc (.cells z5 115)).heap.size = w.heap.size + 1 := by simp
 have hg : ((w.alloc (.cells z5 115)).alloc (.cells z5 115)).heap[w.heap.size + 1]? = some (.cells z5 115 (0, 0)) := by
  rw [← hsz]
  exact World.alloc_heap_new _ _
 have := run_copy_row (P := Tryz.prog) ((w.alloc (.cells z5 115)).alloc (.cells z5 115)) 30 30 3 3 (w.heap.size + 1) 0 5 5 ⟨b, o, none⟩ 2 cap z5 115 [.int .i64 p, .int .i64 q] (by kernel_rfl) (by kernel_rfl) hg rfl
  (fun j v hj => by
   match j, hj with
   | 0, hj =>
    cases hj
    exact cell_alloc (cell_alloc hp)
   | 1, hj =>
    cases hj
    exact cell_alloc (cell_alloc hq)
   | j + 2, hj => simp at hj) (by show 2 ≤ 5; decide) (fun v hv => by
   rcases List.mem_cons.1 hv with rfl | hv
   ·rfl
   ·rcases List.mem_cons.1 hv with rfl | hv
    ·rfl
    ·cases hv)
 exact this
set_option maxHeartbeats 4000000 in
set_option maxRecDepth 100000 in
theorem key_wp {p q : Int} {b o cap : Nat} (a : Act) (w : World) (ha : a.tmps.size = 8) (hd : a.defers = []) (h0' : a.tmps[0]? = some (.slice (some ⟨b, o, none⟩) 2 cap))
  (hp : w.cell? ⟨b, o, none⟩ = some (.int .i64 p)) (hq : w.cell? ⟨b, o + 1, none⟩ = some (.int .i64 q)) :
  key49.wp Tryz.prog (fun e a2 w2 => e = .ret ∧ a2.defers = [] ∧ (∀ b, b < w.heap.size → w2.heap[b]? = w.heap[b]?) ∧ Rest w w2 ∧ (results Tryz.f49 a2.tmps).run Tryz.prog w2 = .ok (.agg (kV p q)) w2) a w := by
 unfold key49
 obtain ⟨_, g0⟩ := Array.getElem?_eq_some_iff.1 h0'
 refine wp_seq ?_
 refine wp_region_lit ?_
 refine wpList_step fun K hK => ?_
 simp [go_sem]
 refine hK _ _ ?_
 clear hK K
 refine wpList_nil ?_
 show Code.wp _ _ _ _ _
 refine wp_seq ?_
 refine wp_region_lit ?_
 refine wpList_step fun K hK => ?_
 simp [go_sem]
 refine hK _ _ ?_
 clear hK K
 refine wpList_nil ?_
 show Code.wp _ _ _ _ _
 refine wp_seq ?_
 refine wp_region_lit ?_
 refine wpList_step fun K hK => ?_
 simp [go_sem, ha]
 refine hK _ _ ?_
 clear hK K
 refine wpList_step fun K hK => ?_
 simp [go_sem, ha, g0]
 refine hK _ _ ?_
 clear hK K
 refine wpList_step fun K hK => ?_
 simp [go_sem, ha]
 have hcp := copy_key (cap := cap) hp hq
 unfold z5 at hcp
 simp [Oper.upon, go_sem, hcp]
 refine hK _ _ ?_
 clear hK K
 refine wpList_nil ?_
 show Code.wp _ _ _ _ _
 have hsz : (w.alloc (.cells z5 115)).heap.size = w.heap.size + 1 := by simp
 obtain ⟨W, hW⟩ : ∃ W, W = ((w.alloc (.cells z5 115)).alloc (.cells z5 115)).setRow (w.heap.size + 1) (kV p q) := ⟨_, rfl⟩
 have hW1 : W.heap[w.heap.size + 1]? = some (.cells (kV p q) 115 (0, 0)) := by
  rw [hW]
  exact setRow_heap _ _ z5 _ _ _ (by rw [← hsz]; exact World.alloc_heap_new _ _)
 have hlow : ∀ b, b < w.heap.size + 1 → W.heap[b]? = (w.alloc (.cells z5 115)).heap[b]? := fun b hb => by
  rw [hW, setRow_other _ _ _ _ (by omega)]
  show ((w.alloc (.cells z5 115)).heap.push _)[b]? = _
  have hb' : b < (w.alloc (.cells z5 115)).heap.size := by omega
  rw [Array.getElem?_push_lt hb']; simp
 have hW0 : W.heap[w.heap.size]? = some (.cells z5 115 (0, 0)) := by
  rw [hlow _ (by omega)]
  exact World.alloc_heap_new _ _
 have hWl : ∀ b, b < w.heap.size → W.heap[b]? = w.heap[b]? := fun b hb => by
  rw [hlow _ (by omega)]
  show (w.heap.push _)[b]? = _
  rw [Array.getElem?_push_lt hb]; simp [hb]
 have hWr : Rest w W := by rw [hW]; exact ⟨rfl, rfl⟩
 unfold z5 at hW
 rw [← hW]
 clear hcp hW hlow hsz
 refine wp_seq ?_
 refine wp_region_lit ?_
 refine wpList_step fun K hK => ?_
 have hc : ∀ j v, (kV p q)[j]? = some v → W.cell? ⟨w.heap.size + 1, j, none⟩ = some v := fun j v h => by
  rw [cell_eq, hW1]; exact h
 have hc0 := hc 0 _ rfl
 have hc1 := hc 1 _ rfl
 have hc2 := hc 2 _ rfl
 have hc3 := hc 3 _ rfl
 have hc4 := hc 4 _ rfl
 simp [Oper.upon, go_sem, ha, hc0, hc1, hc2, hc3, hc4]
 refine hK _ _ ?_
 clear hK K
 refine wpList_step fun K hK => ?_
 have s0 := store_row (P := Tryz.prog) (o := 0) (v := ((kV p q)[0]'(by show 0 < 5; decide))) hW0 (by decide) rfl
 have s1 := store_row2 (P := Tryz.prog) (o := 1) (cur := #[.int .i64 p, .int .i64 0, .int .i64 0, .int .i64 0, .int .i64 0]) (v := ((kV p q)[1]'(by show 1 < 5; decide))) hW0 (by simp) rfl
 have s2 := store_row2 (P := Tryz.prog) (o := 2) (cur := #[.int .i64 p, .int .i64 q, .int .i64 0, .int .i64 0, .int .i64 0]) (v := ((kV p q)[2]'(by show 2 < 5; decide))) hW0 (by simp) rfl
 have s3 := store_row2 (P := Tryz.prog) (o := 3) (cur := #[.int .i64 p, .int .i64 q, .int .i64 0, .int .i64 0, .int .i64 0]) (v := ((kV p q)[3]'(by show 3 < 5; decide))) hW0 (by simp) rfl
 have s4 := store_row2 (P := Tryz.prog) (o := 4) (cur := #[.int .i64 p, .int .i64 q, .int .i64 0, .int .i64 0, .int .i64 0]) (v := ((kV p q)[4]'(by show 4 < 5; decide))) hW0 (by simp) rfl
 have s0 : (store ⟨w.heap.size, 0, none⟩ ((kV p q)[0]'(by show 0 < 5; decide))).run Tryz.prog W = .ok () (W.setRow w.heap.size #[.int .i64 p, .int .i64 0, .int .i64 0, .int .i64 0, .int .i64 0]) := s0
 have s1 : (store ⟨w.heap.size, 1, none⟩ ((kV p q)[1]'(by show 1 < 5; decide))).run Tryz.prog (W.setRow w.heap.size #[.int .i64 p, .int .i64 0, .int .i64 0, .int .i64 0, .int .i64 0]) = .ok () (W.setRow w.heap.size #[.int .i64 p, .int .i64 q, .int .i64 0, .int .i64 0, .int .i64 0]) := s1
 have s2 : (store ⟨w.heap.size, 2, none⟩ ((kV p q)[2]'(by show 2 < 5; decide))).run Tryz.prog (W.setRow w.heap.size #[.int .i64 p, .int .i64 q, .int .i64 0, .int .i64 0, .int .i64 0]) = .ok () (W.setRow w.heap.size #[.int .i64 p, .int .i64 q, .int .i64 0, .int .i64 0, .int .i64 0]) := s2
 have s3 : (store ⟨w.heap.size, 3, none⟩ ((kV p q)[3]'(by show 3 < 5; decide))).run Tryz.prog (W.setRow w.heap.size #[.int .i64 p, .int .i64 q, .int .i64 0, .int .i64 0, .int .i64 0]) = .ok () (W.setRow w.heap.size #[.int .i64 p, .int .i64 q, .int .i64 0, .int .i64 0, .int .i64 0]) := s3
 have s4 : (store ⟨w.heap.size, 4, none⟩ ((kV p q)[4]'(by show 4 < 5; decide))).run Tryz.prog (W.setRow w.heap.size #[.int .i64 p, .int .i64 q, .int .i64 0, .int .i64 0, .int .i64 0]) = .ok () (W.setRow w.heap.size #[.int .i64 p, .int .i64 q, .int .i64 0, .int .i64 0, .int .i64 0]) := s4
 simp [Oper.upon, go_sem, ha, s0, s1, s2, s3, s4]
 refine hK _ _ ?_
 clear hK K s0 s1 s2 s3 s4 hc0 hc1 hc2 hc3 hc4 hc
 refine wpList_nil ?_
 show Code.wp _ _ _ _ _
 refine wp_ret ?_
 have hF : ∀ j v, (kV p q)[j]? = some v → (W.setRow w.heap.size (kV p q)).cell? ⟨w.heap.size, j, none⟩ = some v := fun j v h => by
  rw [cell_eq, setRow_heap _ _ z5 _ _ _ hW0]; exact h
 have f0 := hF 0 _ rfl
 have f1 := hF 1 _ rfl
 have f2 := hF 2 _ rfl
 have f3 := hF 3 _ rfl
 have f4 := hF 4 _ rfl
 refine ⟨rfl, hd, fun b hb => ?_, hWr.trans ⟨rfl, rfl⟩, ?_⟩
 ·show (W.setRow w.heap.size (kV p q)).heap[b]? = _
  rw [setRow_other _ _ _ _ (by omega)]
  exact hWl b hb
 ·show (results Tryz.f49 _).run Tryz.prog (W.setRow w.heap.size (kV p q)) = .ok (.agg (kV p q)) (W.setRow w.heap.size (kV p q))
  simp [results, Tryz.f49, go_sem, ha, f0, f1, f2, f3, f4]
  rfl
set_option maxRecDepth 100000 in
theorem c_keyOf (p q : Int) (H : List Blk) : ACall Tryz.prog 49 [eP p q] H (.ret (.agg [n' p, n' q, n' 0, n' 0, n' 0])) H := by
 intro O ι w cs hR hargs
 obtain ⟨c, hcs⟩ : ∃ c, cs.toList = [c] := by
  match hl : cs.toList, hargs with
  | [], h => simp [VRels] at h
  | [c], _ => exact ⟨c, rfl⟩
  | _ :: _ :: _, h => simp [VRels] at h
 rw [hcs] at hargs
 have hcs2 : cs = #[c] := by rw [← Array.toArray_toList (xs := cs), hcs]
 subst hcs2
 have h0 : VRel ⟨H, ι, w⟩ (eP p q) c := hargs.1
 unfold eP at h0
 simp only [VRel] at h0
 obtain ⟨base, cap, hc, _, hcells, _⟩ := h0
 rcases hcells with hcells | ⟨b, o, rfl, _, hrow⟩
 ·cases hcells
 simp only [VRow, n', VRel] at hrow
 obtain ⟨⟨_, hp, rfl⟩, ⟨_, hq, rfl⟩, _⟩ := hrow
 have hp : w.cell? ⟨b, o, none⟩ = some (.int .i64 p) := hp
 have hq : w.cell? ⟨b, o + 1, none⟩ = some (.int .i64 q) := hq
 subst hc
 refine callsIn_of_wp (fn := Tryz.f49) (c := key49) (by kernel_rfl) (by kernel_rfl) trivial ?_
 show key49.wpIn Fence.wide 0 Tryz.prog _ _ w
 refine wpIn_wide.2 (wp_mono (key_wp { tmps := #[.slice (some ⟨b, o, none⟩) 2 cap] ++ Array.replicate (Tryz.f49.ntmps - 1) undef, defers := [] } w (by rfl) rfl rfl hp hq) ?_)
 rintro e a2 w2 ⟨rfl, hd, hheap, hrest, hres⟩
 have hev : Ev ⟨H, ι, w⟩ ⟨H, ι, w2⟩ := by
  have := Ev.fresh hR (w' := w2) (H2 := []) hheap hrest
  simpa using this
 have hR2 : Rel ⟨H, ι, w2⟩ := by
  have := Rel.fresh hR (w' := w2) (H2 := []) hheap hrest
  simpa using this
 refine ⟨hd, _, hres, ι, ?_, hR2, hev, fun _ _ h => h⟩
 show VRel ⟨H, ι, w2⟩ (.agg [n' p, n' q, n' 0, n' 0, n' 0]) (.agg (kV p q))
 simp only [VRel]
 exact ⟨_, rfl, rfl, rfl, rfl, rfl, rfl, trivial⟩
end Go.Vm
