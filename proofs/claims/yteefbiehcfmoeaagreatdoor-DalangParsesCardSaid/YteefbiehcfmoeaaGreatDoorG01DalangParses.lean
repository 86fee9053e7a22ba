/-
  Texts of the proof, part 1: the machine, contracts of functions, plain laws. (Own work.)
-/
import Derived.Test.YteefbiehcfmoeaaGreatDoorG00DalangParses
import Derived.Laws.Entries

namespace Go.Vm
variable [Outer]
variable {P : Program}
def tsz (P : Program) (t : TypeId) : Option Nat := (P.info? t).map (·.size)
def tz (P : Program) (t : TypeId) : Option Value := (P.info? t).bind (·.zero)
def tagg (P : Program) (t : TypeId) : Option Bool := (P.underlying t).map fun | .struct _ | .array _ _ => true | _ => false
omit [Outer] in
theorem run_tsz {t n : Nat} (h : tsz P t = some n) (w : World) : (sizeOf t).run P w = .ok n w := by
 unfold tsz at h
 cases hi : P.info? t with
 | none => simp [hi] at h
 | some i => simp [hi] at h; simp [sizeOf, typeInfo, hi, h]
omit [Outer] in
theorem run_tz {t : Nat} {v : Value} (h : tz P t = some v) (w : World) : (zeroValue t).run P w = .ok v w := by
 unfold tz at h
 cases hi : P.info? t with
 | none => simp [hi] at h
 | some i => simp [hi] at h; simp [zeroValue, typeInfo, hi, h]
omit [Outer] in
theorem run_tagg {t : Nat} {b : Bool} (h : tagg P t = some b) (w : World) : (isAgg t).run P w = .ok b w := by
 unfold tagg at h
 cases hu : P.underlying t with
 | none => simp [hu] at h
 | some d => simp only [hu, Option.map_some, Option.some.injEq] at h; subst h; unfold isAgg; rw [Sem.run_bind, run_underlying hu]; cases d <;> rfl
theorem VRels.length {S : Sit} : ∀ {as : List AV} {cs : List Value}, VRels S as cs → as.length = cs.length
 | [], [], _ => rfl
 | [], _ :: _, x => by simp [VRels] at x
 | _ :: _, [], x => by simp [VRels] at x
 | a :: as, c :: cs, x => by simp only [VRels] at x; simp [VRels.length x.2]
theorem VRels.append {S : Sit} : ∀ {as : List AV} {cs : List Value} {as' : List AV} {cs' : List Value}, VRels S as cs → VRels S as' cs' → VRels S (as ++ as') (cs ++ cs')
 | [], [], _, _, _, y => y
 | [], _ :: _, _, _, x, _ => by simp [VRels] at x
 | _ :: _, [], _, _, x, _ => by simp [VRels] at x
 | a :: as, c :: cs, _, _, x, y => by simp only [VRels] at x; exact ⟨x.1, VRels.append x.2 y⟩
theorem VRels.take {S : Sit} : ∀ {as : List AV} {cs : List Value} (n : Nat), VRels S as cs → VRels S (as.take n) (cs.take n)
 | [], [], n, _ => by simp [VRels]
 | [], _ :: _, _, x => by simp [VRels] at x
 | _ :: _, [], _, x => by simp [VRels] at x
 | a :: as, c :: cs, 0, x => by simp [VRels]
 | a :: as, c :: cs, n + 1, x => by simp only [VRels] at x; exact ⟨x.1, VRels.take n x.2⟩
theorem VRels.drop {S : Sit} : ∀ {as : List AV} {cs : List Value} (n : Nat), VRels S as cs → VRels S (as.drop n) (cs.drop n)
 | [], [], n, _ => by simp [VRels]
 | [], _ :: _, _, x => by simp [VRels] at x
 | _ :: _, [], _, x => by simp [VRels] at x
 | a :: as, c :: cs, 0, x => x
 | a :: as, c :: cs, n + 1, x => by simp only [VRels] at x; exact VRels.drop n x.2
theorem VRels.get {S : Sit} : ∀ {as : List AV} {cs : List Value} {i : Nat} {a : AV}, VRels S as cs → as[i]? = some a → ∃ c, cs[i]? = some c ∧ VRel S a c
 | [], [], i, a, _, h => by simp at h
 | [], _ :: _, _, _, x, _ => by simp [VRels] at x
 | _ :: _, [], _, _, x, _ => by simp [VRels] at x
 | a :: as, c :: cs, 0, a', x, h => by simp only [VRels] at x; simp at h; subst h; exact ⟨c, rfl, x.1⟩
 | a :: as, c :: cs, i + 1, a', x, h => by simp only [VRels] at x; simp at h; simpa using VRels.get x.2 h
theorem VRels.map_lit {S : Sit} : ∀ (cs : List Value), VRels S (cs.map .lit) cs
 | [] => by simp [VRels]
 | c :: cs => by simp [VRels, VRel, VRels.map_lit cs]
theorem VRow.vals {S : Sit} (b : Nat) : ∀ {as : List AV} {o : Nat}, VRow S b o as → ∃ cs : List Value, VRels S as cs ∧ ∀ i c, cs[i]? = some c → S.w.cell? ⟨b, o + i, none⟩ = some c
 | [], o, _ => ⟨[], by simp [VRels], by simp⟩
 | a :: as, o, x => by
  simp only [VRow] at x
  obtain ⟨⟨c, hc, hr⟩, x2⟩ := x
  obtain ⟨cs, h1, h2⟩ := VRow.vals b x2
  refine ⟨c :: cs, ⟨hr, h1⟩, fun i d hd => ?_⟩
  cases i with
  | zero => simp at hd; subst hd; exact hc
  | succ i => simp at hd; have := h2 i d hd; rw [show o + (i + 1) = o + 1 + i by omega]; exact this
theorem VRow.of_vals {S : Sit} (b : Nat) : ∀ {as : List AV} {cs : List Value} {o : Nat}, VRels S as cs → (∀ i c, cs[i]? = some c → S.w.cell? ⟨b, o + i, none⟩ = some c) → VRow S b o as
 | [], [], o, _, _ => by simp [VRow]
 | [], _ :: _, _, x, _ => by simp [VRels] at x
 | _ :: _, [], _, x, _ => by simp [VRels] at x
 | a :: as, c :: cs, o, x, h => by
  simp only [VRels] at x
  simp only [VRow]
  exact ⟨⟨c, h 0 c rfl, x.1⟩, VRow.of_vals b x.2 fun i d hd => by rw [show o + 1 + i = o + (i + 1) by omega]; exact h (i + 1) d (by simpa using hd)⟩
theorem VRow.drop {S : Sit} (b : Nat) : ∀ {as : List AV} {o : Nat} (n : Nat), VRow S b o as → VRow S b (o + n) (as.drop n)
 | [], o, n, _ => by simp [VRow]
 | a :: as, o, 0, x => x
 | a :: as, o, n + 1, x => by simp only [VRow] at x; have := VRow.drop b n x.2; rw [show o + (n + 1) = o + 1 + n by omega]; exact this
theorem VRow.take {S : Sit} (b : Nat) : ∀ {as : List AV} {o : Nat} (n : Nat), VRow S b o as → VRow S b o (as.take n)
 | [], o, n, _ => by simp [VRow]
 | a :: as, o, 0, x => by simp [VRow]
 | a :: as, o, n + 1, x => by simp only [VRow, List.take_succ_cons] at x ⊢; exact ⟨x.1, VRow.take b n x.2⟩
omit [Outer] in
theorem add_addr (b o n : Nat) : (Addr.mk b o none).add n = ⟨b, o + n, none⟩ := by
 unfold Addr.add
 split
 ·rename_i h; subst h; rfl
 ·rfl
omit [Outer] in
theorem run_loadCellsFrom {w : World} {b o : Nat} {cs : List Value} (h : ∀ i c, cs[i]? = some c → w.cell? ⟨b, o + i, none⟩ = some c) :
  ∀ (n i : Nat) (acc : Array Value), i + n ≤ cs.length → (loadCellsFrom ⟨b, o, none⟩ i n acc).run P w = .ok (acc ++ ((cs.drop i).take n).toArray) w := by
 intro n
 induction n with
 | zero => intro i acc _; simp [loadCellsFrom]
 | succ n ih =>
  intro i acc hle
  have hi : i < cs.length := by omega
  have hc := h i cs[i] (by simp [hi])
  have e : (load ((Addr.mk b o none).add i)).run P w = .ok cs[i] w := by
   rw [add_addr, run_load]; simp only [hc]
  have e2 : (cs.drop i).take (n + 1) = cs[i] :: (cs.drop (i + 1)).take n := by
   rw [List.drop_eq_getElem_cons hi, List.take_succ_cons]
  rw [loadCellsFrom, Sem.run_bind, e]
  simp only [Result.andThen_ok]
  rw [ih (i + 1) _ (by omega), e2]
  simp
omit [Outer] in
theorem run_loadCells {w : World} {b o n : Nat} {cs : List Value} (h : ∀ i c, cs[i]? = some c → w.cell? ⟨b, o + i, none⟩ = some c) (hn : n ≤ cs.length) :
  (loadCells ⟨b, o, none⟩ n).run P w = .ok (cs.take n).toArray w := by
 unfold loadCells
 rw [run_loadCellsFrom h n 0 #[] (by omega)]
 simp
def loadA (P : Program) (t : TypeId) (cells : List AV) : Option AV :=
 match tagg P t, tsz P t with
 | some true, some n => if n ≤ cells.length then some (.agg (cells.take n)) else none
 | some false, _ => cells.head?
 | _, _ => none
theorem run_loadA {S : Sit} {t : Nat} {cells : List AV} {v : AV} {cs : List Value} {b o : Nat} (h : loadA P t cells = some v)
  (hr : VRels S cells cs) (hc : ∀ i c, cs[i]? = some c → S.w.cell? ⟨b, o + i, none⟩ = some c) :
  ∃ c, (loadVar t ⟨b, o, none⟩).run P S.w = .ok c S.w ∧ VRel S v c := by
 unfold loadA at h
 split at h
 ·rename_i n ha hs
  split at h
  ·rename_i hle
   cases h
   have hl := hr.length
   refine ⟨.agg (cs.take n).toArray, ?_, ?_⟩
   ·unfold loadVar
    rw [Sem.run_bind, run_tagg ha]
    simp only [Result.andThen_ok, if_true]
    rw [Sem.run_bind, run_tsz hs]
    simp only [Result.andThen_ok]
    rw [Sem.run_bind, run_loadCells hc (by omega)]
    rfl
   ·simp only [VRel]; exact ⟨_, rfl, by simpa using hr.take n⟩
  ·cases h
 ·rename_i ha
  cases cells with
  | nil => simp at h
  | cons a as =>
   simp at h; subst h
   obtain ⟨c, hc0, hr0⟩ := hr.get (i := 0) (a := a) rfl
   refine ⟨c, ?_, hr0⟩
   unfold loadVar
   rw [Sem.run_bind, run_tagg ha]
   simp only [Result.andThen_ok, Bool.false_eq_true, if_false]
   have := hc 0 c hc0
   rw [Nat.add_zero] at this
   rw [run_load]
   simp only [this]
 ·cases h
def AV.cellsOf : AV → List AV
 | .agg cells => cells
 | .lit (.agg C) => C.toList.map .lit
 | v => [v]
theorem VRel.cells {S : Sit} {v : AV} {c : Value} (h : VRel S v c) : VRels S v.cellsOf c.cells.toList := by
 cases v with
 | agg cells => simp only [VRel] at h; obtain ⟨C, rfl, hr⟩ := h; exact hr
 | lit x =>
  simp only [VRel] at h; subst h
  cases c <;> first
   | exact VRels.map_lit _
   | simp [AV.cellsOf, Value.cells, VRels, VRel]
 | tup vs => have h' := h; simp only [VRel] at h; obtain ⟨C, rfl, hr⟩ := h; simpa [AV.cellsOf, Value.cells, VRels] using h'
 | ptr id off => have h' := h; simp only [VRel] at h; obtain ⟨b, wm, _, _, rfl⟩ := h; simpa [AV.cellsOf, Value.cells, VRels] using h'
 | eptr cells => have h' := h; simp only [VRel] at h; obtain ⟨b, o, rfl, _⟩ := h; simpa [AV.cellsOf, Value.cells, VRels] using h'
 | sl len cells tail => have h' := h; simp only [VRel] at h; obtain ⟨b, o, rfl, _⟩ := h; simpa [AV.cellsOf, Value.cells, VRels] using h'
 | hsl id off len cap => have h' := h; simp only [VRel] at h; obtain ⟨b, wm, _, _, rfl⟩ := h; simpa [AV.cellsOf, Value.cells, VRels] using h'
 | mp id => have h' := h; simp only [VRel] at h; obtain ⟨b, wm, _, _, rfl⟩ := h; simpa [AV.cellsOf, Value.cells, VRels] using h'
 | fn f a b => have h' := h; simp only [VRel] at h; obtain ⟨F, C, rfl, _⟩ := h; simpa [AV.cellsOf, Value.cells, VRels] using h'
 | yld id => have h' := h; simp only [VRel] at h; obtain ⟨b, wm, _, _, rfl⟩ := h; simpa [AV.cellsOf, Value.cells, VRels] using h'
 | iface t v => have h' := h; simp only [VRel] at h; obtain ⟨x, rfl, _⟩ := h; simpa [AV.cellsOf, Value.cells, VRels] using h'
 | msl id gen len sz => have h' := h; simp only [VRel] at h; obtain ⟨b, o, rfl, _⟩ := h; simpa [AV.cellsOf, Value.cells, VRels] using h'
 | mptr id gen off => have h' := h; simp only [VRel] at h; obtain ⟨b, o, rfl, _⟩ := h; simpa [AV.cellsOf, Value.cells, VRels] using h'
 | mpx => have h' := h; simp only [VRel] at h; obtain ⟨b, rfl⟩ := h; simpa [AV.cellsOf, Value.cells, VRels] using h'
end Go.Vm

namespace Go.Vm
variable [Outer]
variable {P : Program}
def splice {α : Type} (l : List α) (o : Nat) (vs : List α) : List α := l.take o ++ vs ++ l.drop (o + vs.length)
omit [Outer] in
theorem splice_nil {α : Type} (l : List α) (o : Nat) : splice l o [] = l := by simp [splice]
omit [Outer] in
theorem splice_cons {α : Type} (l : List α) (o : Nat) (v : α) (vs : List α) (h : o + (v :: vs).length ≤ l.length) :
  splice (l.set o v) (o + 1) vs = splice l o (v :: vs) := by
 simp only [List.length_cons] at h
 unfold splice
 have e1 : (l.set o v).take (o + 1) = l.take o ++ [v] := by
  rw [List.take_add_one]
  have : (l.set o v)[o]? = some v := by rw [List.getElem?_set_self]; omega
  rw [this, List.take_set_of_le (Nat.le_refl _)]
  rfl
 have e2 : (l.set o v).drop (o + 1 + vs.length) = l.drop (o + (v :: vs).length) := by
  rw [List.drop_set_of_lt (by omega)]
  congr 1
  simp; omega
 rw [e1, e2]
 simp
omit [Outer] in
theorem splice_length {α : Type} (l : List α) (o : Nat) (vs : List α) (h : o + vs.length ≤ l.length) : (splice l o vs).length = l.length := by
 simp [splice]; omega
theorem VRels.splice {S : Sit} {as vs : List AV} {cs us : List Value} (o : Nat) (h : VRels S as cs) (hv : VRels S vs us) : VRels S (Vm.splice as o vs) (Vm.splice cs o us) := by
 unfold Vm.splice
 rw [hv.length]
 exact ((h.take o).append hv).append (h.drop _)
omit [Outer] in
theorem run_storeCells {b o : Nat} {t : TypeId} : ∀ (vs : List Value) (i : Nat) (w : World) (C : Array Value), w.heap[b]? = some (.cells C t (0, 0)) →
  o + i + vs.length ≤ C.size → (∀ v ∈ vs, v.oneCell' = true) →
  ∃ (w' : World) (C' : Array Value), (storeCells ⟨b, o, none⟩ vs i).run P w = .ok () w' ∧ w'.heap.size = w.heap.size ∧ (∀ b', b' ≠ b → w'.heap[b']? = w.heap[b']?) ∧
   w'.heap[b]? = some (.cells C' t (0, 0)) ∧ C'.toList = splice C.toList (o + i) vs ∧ Rest w w'
 | [], i, w, C, hC, _, _ => ⟨w, C, by simp [storeCells], rfl, fun _ _ => rfl, hC, by rw [splice_nil], Rest.refl _⟩
 | v :: vs, i, w, C, hC, hle, hone => by
  simp only [List.length_cons] at hle
  have hv := hone v (by simp)
  have hlt : o + i < C.size := by omega
  have hb : b < w.heap.size := (Array.getElem?_eq_some_iff.1 hC).1
  have hcell : w.cell? ⟨b, o + i, none⟩ = some C[o + i] := by rw [cell_eq, hC]; simp [hlt]
  have hfr : w.frozen? ⟨b, o + i, none⟩ = false := by simp [World.frozen?, hC]
  have hset : (w.setCell ⟨b, o + i, none⟩ v).heap[b]? = some (.cells (C.setIfInBounds (o + i) v) t (0, 0)) := by
   simp only [World.setCell]
   rw [Array.getElem?_modify]
   simp [hC]
  have hs1 : o + (i + 1) + vs.length ≤ (C.setIfInBounds (o + i) v).size := by rw [Array.size_setIfInBounds]; omega
  have hother : ∀ b', b' ≠ b → (w.setCell ⟨b, o + i, none⟩ v).heap[b']? = w.heap[b']? := by
   intro b' hne
   simp only [World.setCell]
   rw [Array.getElem?_modify]
   simp [Ne.symm hne]
  obtain ⟨w', C', hrun, hsz, ho, hb', hC', hre⟩ := run_storeCells vs (i + 1) (w.setCell ⟨b, o + i, none⟩ v) (C.setIfInBounds (o + i) v) hset hs1 (fun u hu => hone u (by simp [hu]))
  refine ⟨w', C', ?_, ?_, fun b1 hne => (ho b1 hne).trans (hother b1 hne), hb', ?_, Rest.trans ⟨rfl, rfl⟩ hre⟩
  ·rw [storeCells, Sem.run_bind, add_addr, run_store P w _ _ _ hv]
   simp only [hcell, hfr]
   exact hrun
  ·rw [hsz]; simp [World.setCell]
  ·rw [hC', Array.toList_setIfInBounds, show o + (i + 1) = o + i + 1 by omega, splice_cons _ _ _ _ (by simp only [List.length_cons, Array.length_toList]; omega)]
def AV.one : AV → Bool
 | .agg _ | .tup _ => false
 | .lit v => v.oneCell'
 | _ => true
theorem VRel.oneCell {S : Sit} {v : AV} {c : Value} (h : VRel S v c) (h1 : v.one = true) : c.oneCell' = true := by
 cases v with
 | agg cells => simp [AV.one] at h1
 | tup vs => simp [AV.one] at h1
 | lit x => simp only [VRel] at h; subst h; exact h1
 | ptr id off => simp only [VRel] at h; obtain ⟨b, wm, _, _, rfl⟩ := h; rfl
 | eptr cells => simp only [VRel] at h; obtain ⟨b, o, rfl, _⟩ := h; rfl
 | sl len cells tail => simp only [VRel] at h; obtain ⟨b, o, rfl, _⟩ := h; rfl
 | hsl id off len cap => simp only [VRel] at h; obtain ⟨b, wm, _, _, rfl⟩ := h; rfl
 | mp id => simp only [VRel] at h; obtain ⟨b, wm, _, _, rfl⟩ := h; rfl
 | fn f a b => simp only [VRel] at h; obtain ⟨F, C, rfl, _⟩ := h; rfl
 | yld id => simp only [VRel] at h; obtain ⟨b, wm, _, _, rfl⟩ := h; rfl
 | iface t v => simp only [VRel] at h; obtain ⟨x, rfl, _⟩ := h; rfl
 | msl id gen len sz => simp only [VRel] at h; obtain ⟨b, o, rfl, _⟩ := h; rfl
 | mptr id gen off => simp only [VRel] at h; obtain ⟨b, o, rfl, _⟩ := h; rfl
 | mpx => simp only [VRel] at h; obtain ⟨b, rfl⟩ := h; rfl
theorem VRels.oneCell {S : Sit} : ∀ {as : List AV} {cs : List Value}, VRels S as cs → as.all AV.one = true → ∀ c ∈ cs, c.oneCell' = true
 | [], [], _, _, c, hc => by simp at hc
 | [], _ :: _, x, _, _, _ => by simp [VRels] at x
 | _ :: _, [], x, _, _, _ => by simp [VRels] at x
 | a :: as, d :: cs, x, h, c, hc => by
  simp only [VRels] at x
  simp only [List.all_cons, Bool.and_eq_true] at h
  rcases List.mem_cons.1 hc with rfl | hc
  ·exact x.1.oneCell h.1
  ·exact VRels.oneCell x.2 h.2 c hc
theorem store_box {S : Sit} (hR : Rel S) {id b wm off n : Nat} {t bt : TypeId} {cells : List AV} {v : AV} {c : Value} (hi : S.ι id = some (b, wm)) (hB : S.H[id]? = some (.box cells bt))
  (hv : VRel S v c) (ht : tsz P t = some n) (hn : v.cellsOf.length = n) (hle : off + n ≤ cells.length) (h1 : v.cellsOf.all AV.one = true) :
  ∃ w', (storeVar t ⟨b, off, none⟩ c).run P S.w = .ok () w' ∧ Rel ⟨S.H.set id (.box (splice cells off v.cellsOf) bt), S.ι, w'⟩ ∧
   Ev S ⟨S.H.set id (.box (splice cells off v.cellsOf) bt), S.ι, w'⟩ := by
 obtain ⟨B, hB', hrel⟩ := hR.blk id b wm hi
 rw [hB] at hB'; cases hB'
 obtain ⟨C, hC, hcs⟩ := hrel
 have hvc := hv.cells
 have hl1 := hvc.length
 have hl2 := hcs.length
 have hsz : c.cells.size = n := by rw [← hn, hl1]; simp
 obtain ⟨w', C', hrun, hs, ho, hb, hC', hre⟩ := run_storeCells (P := P) (b := b) (o := off) (t := bt) c.cells.toList 0 S.w C hC (by simp at hl2 ⊢; omega) (hvc.oneCell h1)
 have hev := Ev.write hR (B' := .box (splice cells off v.cellsOf) bt) hi hB rfl rfl ho hre
 refine ⟨w', ?_, Rel.write hR hi hB rfl rfl ho ⟨C', hb, ?_⟩ hre, hev⟩
 ·unfold storeVar
  rw [Sem.run_bind, run_tsz ht]
  simp only [Result.andThen_ok, hsz]
  rw [if_neg (by simp)]
  exact hrun
 ·rw [hC', Nat.add_zero]
  exact VRels.ev hev _ _ (hcs.splice off hvc)
theorem get_mrow {S : Sit} (hR : Rel S) {id g b wm : Nat} {cells : List AV} (hi : S.ι id = some (b, wm)) (hB : S.H[id]? = some (.mrow g cells)) :
  ∃ C t, S.w.heap[b]? = some (.cells C t (0, 0)) ∧ VRels S cells (C.toList.take cells.length) := by
 obtain ⟨B, hB', hrel⟩ := hR.blk id b wm hi
 rw [hB] at hB'; cases hB'
 exact hrel
omit [Outer] in
theorem MRef.here {S : Sit} {id g : Nat} {K : Nat → Nat → Prop} {cells : List AV} (x : MRef S id g K) (hB : S.H[id]? = some (.mrow g cells)) :
  ∃ b wm C t, S.ι id = some (b, wm) ∧ S.w.heap[b]? = some (.cells C t (0, 0)) ∧ K b C.size := by
 obtain ⟨B, g', hB', hm, hle, k⟩ := x
 rw [hB] at hB'; cases hB'
 cases hm
 exact k rfl ⟨_, rfl⟩
omit [Outer] in
theorem splice_take {α : Type} (l xs : List α) (off k : Nat) (h : off + xs.length ≤ k) (hk : k ≤ l.length) : (splice l off xs).take k = splice (l.take k) off xs := by
 obtain ⟨T, D, rfl, hT⟩ : ∃ T D, l = T ++ D ∧ T.length = k := ⟨l.take k, l.drop k, (List.take_append_drop k l).symm, by simp; omega⟩
 have hT' : (T ++ D).take k = T := by rw [List.take_left' hT]
 rw [hT']
 have e : splice (T ++ D) off xs = splice T off xs ++ D := by
  unfold splice
  rw [List.take_append_of_le_length (by omega), List.drop_append_of_le_length (by omega)]
  simp
 rw [e]
 exact List.take_left' (by rw [splice_length _ _ _ (by omega)]; exact hT)
theorem store_mrow {S : Sit} (hR : Rel S) {id g b wm off n : Nat} {t : TypeId} {cells : List AV} {v : AV} {c : Value} (hi : S.ι id = some (b, wm)) (hB : S.H[id]? = some (.mrow g cells))
    (hv : VRel S v c) (ht : tsz P t = some n) (hn : v.cellsOf.length = n) (hle : off + n ≤ cells.length) (h1 : v.cellsOf.all AV.one = true) :
    ∃ w', (storeVar t ⟨b, off, none⟩ c).run P S.w = .ok () w' ∧ Rel ⟨S.H.set id (.mrow g (splice cells off v.cellsOf)), S.ι, w'⟩ ∧
      Ev S ⟨S.H.set id (.mrow g (splice cells off v.cellsOf)), S.ι, w'⟩ := by
  obtain ⟨C, bt, hC, hcs⟩ := get_mrow hR hi hB
  have hvc := hv.cells
  have hl1 := hvc.length
  have hl2 := hcs.length
  have hlc : cells.length ≤ C.size := by simp at hl2; omega
  have hsz : c.cells.size = n := by rw [← hn, hl1]; simp
  obtain ⟨w', C', hrun, hs, ho, hb, hC', hre⟩ := run_storeCells (P := P) (b := b) (o := off) (t := bt) c.cells.toList 0 S.w C hC (by simp; omega) (hvc.oneCell h1)
  have hupd : upd S.ι id (some (b, wm)) = S.ι := by
    funext i
    by_cases h : i = id
    · subst h; rw [upd_same, hi]
    · rw [upd_other _ _ _ _ h]
  have hsame : ∀ b', (∀ wm, S.ι id ≠ some (b', wm)) → b' < S.w.heap.size → w'.heap[b']? = S.w.heap[b']? := fun b' h _ => ho b' (by rintro rfl; exact h wm hi)
  have hlC : C'.size = C.size := by
    have := congrArg List.length hC'
    rw [splice_length _ _ _ (by simp; omega)] at this
    simpa using this
  have hk : g = g → (∃ c1, Blk.mrow g (splice cells off v.cellsOf) = .mrow g c1) ∧ some (b, wm) = S.ι id ∧ ∀ b' wm' C0 t0, S.ι id = some (b', wm') → S.w.heap[b']? = some (.cells C0 t0 (0, 0)) →
      ∃ C' t', w'.heap[b']? = some (.cells C' t' (0, 0)) ∧ C'.size = C0.size := by
    refine fun _ => ⟨⟨_, rfl⟩, hi.symm, fun b' wm' C0 t0 h hC0 => ?_⟩
    rw [hi] at h; cases h
    rw [hC] at hC0; cases hC0
    exact ⟨C', bt, hb, hlC⟩
  have hev := Ev.mrow hR (w' := w') (B' := .mrow g (splice cells off v.cellsOf)) (p := some (b, wm)) hB rfl (Nat.le_refl g) hsame hk (fun nb wm1 h => by cases h; exact .inl ⟨_, hi⟩) hre
  have hrel := Rel.mrow hR (w' := w') (B' := .mrow g (splice cells off v.cellsOf)) (nb := b) (wm' := wm) hB rfl (Nat.le_refl g) hsame hk (.inl ⟨_, hi⟩) ⟨C', bt, hb, by
    have hlen : (splice cells off v.cellsOf).length = cells.length := splice_length _ _ _ (by omega)
    rw [hlen, hC', Nat.add_zero]
    have : (splice C.toList off c.cells.toList).take cells.length = splice (C.toList.take cells.length) off c.cells.toList := splice_take _ _ _ _ (by simp; omega) (by simp; omega)
    rw [this]
    exact VRels.ev hev _ _ (hcs.splice off hvc)⟩ hre
  rw [hupd] at hev hrel
  refine ⟨w', ?_, hrel, hev⟩
  unfold storeVar
  rw [Sem.run_bind, run_tsz ht]
  simp only [Result.andThen_ok, hsz]
  rw [if_neg (by simp)]
  exact hrun
theorem new_box {S : Sit} (hR : Rel S) (t : TypeId) {cells : List AV} {C : Array Value} (h : VRels S cells C.toList) :
  ∃ w', (newRow t C).run P S.w = .ok ⟨S.w.heap.size, 0, none⟩ w' ∧
   Rel ⟨S.H ++ [.box cells t], upd S.ι S.H.length (some (S.w.heap.size, 0)), w'⟩ ∧
   Ev S ⟨S.H ++ [.box cells t], upd S.ι S.H.length (some (S.w.heap.size, 0)), w'⟩ := by
 have hev := Ev.alloc hR (w' := { S.w with heap := S.w.heap.push (.cells C t) }) (.box cells t) 0 rfl
 exact ⟨_, by simp [newRow], Rel.alloc hR _ _ rfl ⟨C, by simp, VRels.ev hev _ _ h⟩, hev⟩
theorem new_row {S : Sit} (hR : Rel S) (t : TypeId) {cells : List AV} {C : Array Value} (h : VRels S cells C.toList) (H2 : List Blk) :
  ∃ w', (newRow t C).run P S.w = .ok ⟨S.w.heap.size, 0, none⟩ w' ∧ w'.heap = S.w.heap.push (.cells C t) ∧ Rest S.w w' ∧ Rel ⟨S.H ++ H2, S.ι, w'⟩ ∧ Ev S ⟨S.H ++ H2, S.ι, w'⟩ ∧
   (∀ n, n ≤ C.size → Fix ⟨S.H ++ H2, S.ι, w'⟩ S.w.heap.size n) ∧ VRow ⟨S.H ++ H2, S.ι, w'⟩ S.w.heap.size 0 cells := by
 have hw : ∀ b, b < S.w.heap.size → ({ S.w with heap := S.w.heap.push (.cells C t) } : World).heap[b]? = S.w.heap[b]? := fun b hb => by
  show (S.w.heap.push _)[b]? = _
  rw [Array.getElem?_push_lt hb]; simp [hb]
 have hev := Ev.fresh hR (w' := { S.w with heap := S.w.heap.push (.cells C t) }) (H2 := H2) hw
 refine ⟨{ S.w with heap := S.w.heap.push (.cells C t) }, by simp [newRow], rfl, ⟨rfl, rfl⟩, Rel.fresh hR hw, hev, fun n hn => ⟨C, t, (0, 0), by simp, hn, fun id wm e => ?_, fun x e => absurd (hR.out _ x e).1 (by omega)⟩, ?_⟩
 ·exact absurd (hR.block e) (by omega)
 ·refine VRow.of_vals _ (VRels.ev hev _ _ h) fun i c hc => ?_
  rw [cell_eq]
  simp only [Array.getElem?_push_size]
  simpa using hc
end Go.Vm

namespace Go.Vm
variable [Outer]
variable {P : Program}
def tslice (P : Program) (t : TypeId) : Option TypeId := match P.underlying t with | some (.slice e) => some e | _ => none
def tbytes (P : Program) (t : TypeId) : Option Nat := (P.info? t).map (·.bytes)
def tsrc (P : Program) (t : TypeId) : Bool := match P.underlying t with | some (.slice _) | some .string => true | _ => false
omit [Outer] in
theorem tsrc_eq {t : TypeId} (h : tsrc P t = true) : (∃ e, P.underlying t = some (.slice e)) ∨ P.underlying t = some .string := by
 unfold tsrc at h
 split at h
 ·rename_i e h'; exact .inl ⟨e, h'⟩
 ·rename_i h'; exact .inr h'
 ·cases h
omit [Outer] in
theorem tslice_eq {t e : TypeId} (h : tslice P t = some e) : P.underlying t = some (.slice e) := by
 unfold tslice at h
 split at h
 ·rename_i h'; cases h; exact h'
 ·cases h
omit [Outer] in
theorem run_info {t n : Nat} (h : tbytes P t = some n) : ∃ i, P.info? t = some i ∧ i.bytes = n := by
 unfold tbytes at h
 cases hi : P.info? t with
 | none => simp [hi] at h
 | some i => simp [hi] at h; exact ⟨i, rfl, h⟩
omit [Outer] in
theorem run_typeInfo' {t : Nat} {i : TypeInfo} (h : P.info? t = some i) (w : World) : (typeInfo t).run P w = .ok i w := by
 simp [typeInfo, h]
def srcCells (H : List Blk) (size : Nat) : AV → Option (Nat × List AV)
 | .lit (.slice none 0 _) => some (0, [])
 | .lit (.slice (some _) 0 _) => some (0, [])
 | .sl len cells _ => if cells.length = len * size then some (len, cells) else none
 | .hsl id off len _ => match H[id]? with
  | some (.box cells _) => if off + len * size ≤ cells.length then some (len, (cells.drop off).take (len * size)) else none
  | _ => none
 | .msl id gen len _ => match H[id]? with
  | some (.mrow g cells) => if g = gen ∧ len * size ≤ cells.length then some (len, cells.take (len * size)) else none
  | _ => none
 | .lit (.string s) => if size = 1 then some (s.size, s.data.toList.map fun b => .lit (.int .u8 b.toNat)) else none
 | _ => none
theorem srcCells_sound {S : Sit} (hR : Rel S) {size n : Nat} {x : AV} {cx : Value} {cells : List AV} (h : srcCells S.H size x = some (n, cells)) (hx : VRel S x cx) :
  cells.length = n * size ∧ (Builtin.lenOf cx).run P S.w = .ok n S.w ∧
  ∃ C : Array Value, (∀ w', w'.heap = S.w.heap → (Builtin.firstCells size n cx).run P w' = .ok C w') ∧ VRels S cells C.toList := by
 unfold srcCells at h
 split at h
 ·cases h
  simp only [VRel] at hx; subst hx
  exact ⟨by simp, rfl, #[], fun _ _ => rfl, by simp [VRels]⟩
 ·cases h
  simp only [VRel] at hx; subst hx
  exact ⟨by simp, rfl, #[], fun _ _ => by simp [Builtin.firstCells, loadCells, loadCellsFrom], by simp [VRels]⟩
 ·rename_i len cells' tail
  split at h
  ·rename_i hl
   cases h
   simp only [VRel] at hx
   obtain ⟨base, cap, rfl, _, hc, _⟩ := hx
   refine ⟨hl, rfl, ?_⟩
   rcases hc with rfl | ⟨b, o, rfl, _, hr⟩
   ·have hz : n * size = 0 := by simpa using hl.symm
    refine ⟨#[], fun w' _ => ?_, by simp [VRels]⟩
    cases base with
    | none => rfl
    | some a => simp [Builtin.firstCells, hz, loadCells, loadCellsFrom]
   ·obtain ⟨cs, h1, h2⟩ := hr.vals
    have hlen := h1.length
    refine ⟨cs.toArray, fun w' hw => ?_, by simpa using h1⟩
    simp only [Builtin.firstCells]
    rw [run_loadCells (w := w') (fun i c hc => by rw [heap_cell (w := S.w) (by rw [hw])]; exact h2 i c hc) (by omega), List.take_of_length_le (by omega)]
  ·cases h
 ·rename_i id off len cap
  cases hB : S.H[id]? with
  | none => simp [hB] at h
  | some B =>
   cases B with
   | box cells' t =>
    simp only [hB] at h
    split at h
    ·rename_i hl
     cases h
     simp only [VRel] at hx
     obtain ⟨b, wm, hi, _, rfl⟩ := hx
     obtain ⟨B, hB', hrel⟩ := hR.blk id b wm hi
     rw [hB] at hB'; cases hB'
     obtain ⟨C, hC, hr⟩ := hrel
     have hlen := hr.length
     refine ⟨by simp; omega, rfl, ((C.toList.drop off).take (n * size)).toArray, fun w' hw => ?_, by simpa using (hr.drop off).take (n * size)⟩
     simp only [Builtin.firstCells]
     refine run_loadCells (cs := C.toList.drop off) (fun i c hc => ?_) (by simp; simp at hlen; omega)
     rw [cell_eq, hw, hC]
     simpa using hc
    ·cases h
   | _ => simp [hB] at h
 ·rename_i id gen len sz
  cases hB : S.H[id]? with
  | none => simp [hB] at h
  | some B =>
   cases B with
   | mrow g cells' =>
    simp only [hB] at h
    split at h
    ·rename_i hl
     obtain ⟨rfl, hl⟩ := hl
     cases h
     simp only [VRel] at hx
     obtain ⟨base, cap, rfl, hle, hm⟩ := hx
     rcases hm with ⟨b, rfl, hm⟩ | ⟨rfl, rfl, _⟩
     case inr =>
      obtain rfl : n = 0 := by omega
      exact ⟨by simp, rfl, #[], fun w' _ => rfl, by simp [VRels]⟩
     obtain ⟨b', wm, C, t, hi, hC, rfl, _⟩ := hm.here hB
     obtain ⟨C', t', hC', hr⟩ := get_mrow hR hi hB
     rw [hC] at hC'; cases hC'
     have hlen := hr.length
     have e1 : (C.toList.take cells'.length).take (n * size) = C.toList.take (n * size) := by rw [List.take_take, Nat.min_eq_left hl]
     have hlc : cells'.length ≤ C.size := by simp at hlen; omega
     refine ⟨by simp; omega, rfl, (C.toList.take (n * size)).toArray, fun w' hw => ?_, by have := hr.take (n * size); rw [e1] at this; simpa using this⟩
     simp only [Builtin.firstCells]
     refine run_loadCells (cs := C.toList) (fun i c hc => ?_) (by simp; omega)
     rw [cell_eq, hw, hC]
     simpa using hc
    ·cases h
   | _ => simp [hB] at h
 ·rename_i s
  split at h
  ·rename_i hs
   cases h
   simp only [VRel] at hx; subst hx
   refine ⟨by rw [hs, List.length_map, Nat.mul_one]; rfl, rfl, _, fun _ _ => rfl, ?_⟩
   have : s.extract 0 s.size = s := ByteArray.extract_zero_size
   rw [this]
   simp only [Array.toList_map]
   have : (s.data.toList.map fun b => AV.lit (.int .u8 b.toNat)) = (s.data.toList.map fun b => Value.int .u8 b.toNat).map .lit := by simp
   rw [this]
   exact VRels.map_lit _
  ·cases h
 ·cases h
omit [Outer] in
theorem growBy_le (n : Nat) : ∀ (r c : Nat), Builtin.growBy n r c ≤ (c + 768) * 2 ^ r
 | 0, c => by simp [Builtin.growBy]
 | r + 1, c => by
  unfold Builtin.growBy
  split
  ·have : 1 ≤ 2 ^ (r + 1) := Nat.one_le_two_pow
   calc c ≤ c + 768 := by omega
    _ = (c + 768) * 1 := by omega
    _ ≤ _ := Nat.mul_le_mul_left _ this
  ·refine Nat.le_trans (growBy_le n r _) ?_
   rw [Nat.pow_succ, ← Nat.mul_assoc, Nat.mul_comm ((c + 768) * 2 ^ r) 2, ← Nat.mul_assoc]
   exact Nat.mul_le_mul_right _ (by omega)
omit [Outer] in
theorem nextslicecap_le {n c : Nat} (hc : c < n) : Builtin.nextslicecap n c ≤ (n + 768) * 16 := by
 unfold Builtin.nextslicecap
 split
 ·omega
 ·split
  ·omega
  ·exact Nat.le_trans (growBy_le n 4 c) (by omega)
omit [Outer] in
theorem append_run {argTypes : Array TypeId} {ty sT xT e size n : Nat} {base : Option Addr} {len cap : Nat} {cx : Value} {w : World} {C : Array Value} {i : TypeInfo}
  (h0 : argTypes[0]? = some sT) (h1 : argTypes[1]? = some xT) (hs : tslice P sT = some e) (hz : tsz P e = some size) (hx : tsrc P xT = true)
  (hi : P.info? e = some i) (hlen : (Builtin.lenOf cx).run P w = .ok n w) (hf : ∀ w', w'.heap = w.heap → (Builtin.firstCells size n cx).run P w' = .ok C w') :
  (len + n ≤ cap → (Builtin.append_ argTypes ty #[.slice base len cap, cx]).run P w =
   ((match base with | some a => storeCells (a.add (len * size)) C.toList | none => pure ()).run P w).andThen fun _ w' => .ok (.slice base (len + n) cap) w') ∧
  (cap < len + n → len + n ≤ 2097152 → i.bytes ≤ 2097152 → ∀ z old, i.zero = some z →
   (∀ w', w'.heap = w.heap → (Builtin.firstCells size len (.slice base len cap)).run P w' = .ok old w') →
   ∃ (newCap : Nat) (w1 : World), len + n ≤ newCap ∧ (w1.heap = w.heap ∧ Rest w w1) ∧ (Builtin.append_ argTypes ty #[.slice base len cap, cx]).run P w =
    .ok (.slice (some ⟨w.heap.size, 0, none⟩) (len + n) newCap)
     { w1 with heap := w1.heap.push (.cells (old ++ C ++ Builtin.zeroCells z.cells (newCap - (len + n))) e) }) := by
 obtain ⟨d, hu, hd⟩ : ∃ d, P.underlying xT = some d ∧ ((∃ e, d = .slice e) ∨ d = .string) := by
  rcases tsrc_eq hx with ⟨e', h⟩ | h
  ·exact ⟨_, h, .inl ⟨e', rfl⟩⟩
  ·exact ⟨_, h, .inr rfl⟩
 have e1 : ∀ w, (underlying sT).run P w = .ok (.slice e) w := run_underlying (tslice_eq hs)
 have e2 : ∀ w, (underlying xT).run P w = .ok d w := run_underlying hu
 have e3 : ∀ w, (typeInfo e).run P w = .ok i w := run_typeInfo' hi
 rcases hd with ⟨e', rfl⟩ | rfl
 all_goals
  have a0 : (#[Value.slice base len cap, cx] : Array Value)[0]? = some (.slice base len cap) := rfl
  have a1 : (#[Value.slice base len cap, cx] : Array Value)[1]? = some cx := rfl
  constructor
  ·intro hle
   unfold Builtin.append_
   simp only [h0, h1, a0, a1]
   rw [Sem.run_bind, e1]
   simp only [Result.andThen_ok]
   rw [Sem.run_bind, run_tsz hz]
   simp only [Result.andThen_ok]
   rw [Sem.run_bind, e2]
   simp only [Result.andThen_ok]
   try rw [Sem.run_bind, Sem.run_pure]
   try simp only [Result.andThen_ok, Bool.false_eq_true, if_false]
   rw [Sem.run_bind, hlen]
   simp only [Result.andThen_ok, hle, if_true, Bool.not_false]
   rw [Sem.run_bind, hf w rfl]
   simp only [Result.andThen_ok]
   cases base with
   | none => rfl
   | some a => exact Sem.run_bind ..
  ·intro hlt hbig hbytes z old hzero hold
   have hm : (Question.appendCap (len + n) cap e).forced = false := rfl
   refine ⟨(Question.appendCap (len + n) cap e).cut (w.tape w.drawn (.appendCap (len + n) cap e)), { w with drawn := w.drawn + 1 }, ?_, ⟨rfl, rfl, rfl⟩, ?_⟩
   ·simp [Question.cut]
   ·have hnle : ¬ len + n ≤ cap := by omega
    have hcap : ¬ ((Builtin.nextslicecap (len + n) cap * i.bytes : Nat) > 2 ^ 48) := by
     have h1 := nextslicecap_le hlt
     have h2 := Nat.mul_le_mul_left (Builtin.nextslicecap (len + n) cap) hbytes
     have h3 := Nat.mul_le_mul_right 2097152 h1
     have h4 : (2 : Nat) ^ 48 = 281474976710656 := by simp
     rw [h4]
     omega
    have hneed : ¬ (((len + n : Nat) : Int) > IntKind.i64.max) := by
     have : IntKind.i64.max = 9223372036854775807 := by decide
     rw [this]; omega
    unfold Builtin.append_
    simp only [h0, h1, a0, a1]
    rw [Sem.run_bind, e1]
    simp only [Result.andThen_ok]
    rw [Sem.run_bind, run_tsz hz]
    simp only [Result.andThen_ok]
    rw [Sem.run_bind, e2]
    simp only [Result.andThen_ok]
    try rw [Sem.run_bind, Sem.run_pure]
    try simp only [Result.andThen_ok, Bool.false_eq_true, if_false]
    rw [Sem.run_bind, hlen]
    simp only [Result.andThen_ok, hnle, if_false, Bool.not_false, false_or, if_true]
    rw [Sem.run_bind, e3]
    simp only [Result.andThen_ok, hneed, false_and, if_false]
    rw [Sem.run_bind, e3]
    simp only [Result.andThen_ok, hcap, if_false]
    rw [Sem.run_bind, run_choose]
    simp only [hm, Bool.false_eq_true, if_false, Result.andThen_ok]
    rw [Sem.run_bind, e3]
    simp only [Result.andThen_ok]
    rw [Sem.run_bind, run_askRoom]
    simp only [Result.andThen_ok]
    rw [Sem.run_bind, hold { w with drawn := w.drawn + 1 } rfl]
    simp only [Result.andThen_ok]
    rw [Sem.run_bind, hf { w with drawn := w.drawn + 1 } rfl]
    simp only [Result.andThen_ok]
    rw [Sem.run_bind, run_tz (by unfold tz; rw [hi]; exact hzero)]
    simp only [Result.andThen_ok]
    rw [Sem.run_bind]
    simp [newRow]
    exact ⟨rfl, rfl, rfl⟩
def appA (P : Program) (m : Bool) (H : List Blk) (sT xT : TypeId) (s x : AV) : Option (AV × List Blk) :=
 match tslice P sT with
 | none => none
 | some e =>
  match tsz P e, tz P e, tbytes P e with
  | some size, some z, some bytes =>
   if tsrc P xT && (decide (bytes ≤ 2097152) && decide (z.cells.size = size)) then
    match srcCells H size x with
    | none => none
    | some (n, new) =>
     match s with
     | .lit (.slice none 0 0) =>
      if n = 0 then some (s, H)
      else if n ≤ 2097152 then (if m then some (.msl H.length 0 n size, H ++ [.mrow 0 new]) else some (.sl n new (.own H.length 0 size), H ++ [.row 0])) else none
     | .msl id g len sz =>
      if n = 0 then some (s, H)
      else match H[id]? with
       | some (.mrow g0 cells) => if g = g0 ∧ sz = size ∧ len * size ≤ cells.length ∧ len + n ≤ 2097152 ∧ new.all AV.one = true then some (.msl id (g0 + 1) (len + n) size, H.set id (.mrow (g0 + 1) (cells.take (len * size) ++ new))) else none
       | _ => none
     | .sl len cells tail =>
      if n = 0 then some (s, H)
      else if cells.length = len * size ∧ len + n ≤ 2097152 then
       match tail with
       | .unk => none
       | .full => if m then some (.msl H.length 0 (len + n) size, H ++ [.mrow 0 (cells ++ new)]) else some (.sl (len + n) (cells ++ new) (.own H.length 0 size), H ++ [.row 0])
       | .own id g sz =>
        match H[id]? with
        | some (.row g0) => if g = g0 ∧ sz = size ∧ new.all AV.one = true then some (.sl (len + n) (cells ++ new) (.own id (g + 1) size), H.set id (.row (g + 1))) else none
        | _ => none
      else none
     | _ => none
   else none
  | _, _, _ => none
theorem VRels.toArray {S : Sit} {cells : List AV} {C : Array Value} (h : VRels S cells C.toList) : cells.length = C.size := by
 have := h.length; simpa using this
omit [Outer] in
theorem zeroCells_size (z : Array Value) (n : Nat) : (Builtin.zeroCells z n).size = n * z.size := by simp [Builtin.zeroCells]
theorem sl_cells {S : Sit} {len cap size : Nat} {cells : List AV} {tail : Tail} {base : Option Addr} (hl : cells.length = len * size)
  (hv : VRel S (.sl len cells tail) (.slice base len cap)) :
  ∃ C : Array Value, VRels S cells C.toList ∧ ∀ w', w'.heap = S.w.heap → (Builtin.firstCells size len (.slice base len cap)).run P w' = .ok C w' := by
 simp only [VRel] at hv
 obtain ⟨base', cap', he, _, hc, _⟩ := hv
 cases he
 rcases hc with rfl | ⟨b, o, rfl, _, hr⟩
 ·have hz : len * size = 0 := by simpa using hl.symm
  refine ⟨#[], by simp [VRels], fun w' _ => ?_⟩
  cases base with
  | none => rfl
  | some a => simp [Builtin.firstCells, hz, loadCells, loadCellsFrom]
 ·obtain ⟨cs, h1, h2⟩ := hr.vals
  have hlen := h1.length
  refine ⟨cs.toArray, by simpa using h1, fun w' hw => ?_⟩
  simp only [Builtin.firstCells]
  rw [run_loadCells (w := w') (fun i c hc => by rw [heap_cell (w := S.w) (by rw [hw])]; exact h2 i c hc) (by omega), List.take_of_length_le (by omega)]
theorem grown_new {S : Sit} (hR : Rel S) {w' : World} {C : Array Value} {e : TypeId} {cells : List AV} {len cap sz : Nat} (hw : w'.heap = S.w.heap.push (.cells C e)) (hos : Rest S.w w')
  (hc : VRels S cells (C.toList.take cells.length)) (hl : cells.length = len * sz) (hle : len ≤ cap) (hsz : cap * sz ≤ C.size) (hn : cells.length ≤ C.size) :
  Rel ⟨S.H ++ [.row 0], upd S.ι S.H.length (some (S.w.heap.size, cells.length)), w'⟩ ∧ Ev S ⟨S.H ++ [.row 0], upd S.ι S.H.length (some (S.w.heap.size, cells.length)), w'⟩ ∧
   VRel ⟨S.H ++ [.row 0], upd S.ι S.H.length (some (S.w.heap.size, cells.length)), w'⟩ (.sl len cells (.own S.H.length 0 sz)) (.slice (some ⟨S.w.heap.size, 0, none⟩) len cap) := by
 have hev := Ev.alloc hR (.row 0) cells.length hw hos
 have hnb : w'.heap[S.w.heap.size]? = some (.cells C e (0, 0)) := by rw [hw]; simp
 refine ⟨Rel.alloc hR (.row 0) cells.length hw ⟨C, e, hnb, hn⟩ hos, hev, ?_⟩
 simp only [VRel]
 refine ⟨_, cap, rfl, hle, .inr ⟨_, 0, rfl, ⟨C, e, (0, 0), hnb, by omega, fun id wm h => ?_, fun _ hx => absurd (hR.out _ _ hx).1 (by omega)⟩, VRow.of_vals _ (VRels.ev hev _ _ hc) fun i c h => ?_⟩, hl, 0, by simp, Nat.le_refl _, fun _ => .inr ⟨_, 0, C, e, rfl, ?_, hnb, by omega⟩⟩
 ·by_cases hid : id = S.H.length
  ·subst hid
   have h' : upd S.ι S.H.length (some (S.w.heap.size, cells.length)) S.H.length = some (S.w.heap.size, wm) := h
   rw [upd_same] at h'; cases h'
   exact ⟨⟨0, by simp⟩, by omega⟩
  ·have h' : upd S.ι S.H.length (some (S.w.heap.size, cells.length)) id = some (S.w.heap.size, wm) := h
   rw [upd_other _ _ _ _ hid] at h'
   exact absurd (hR.block h') (by omega)
 ·rw [cell_eq, hnb]
  rw [List.getElem?_take] at h
  split at h
  ·simpa using h
  ·cases h
 ·show upd _ _ _ _ = _
  rw [upd_same, Nat.zero_add]
theorem grown_move {S : Sit} (hR : Rel S) {w' : World} {C : Array Value} {e : TypeId} {cells : List AV} {len cap sz id g : Nat} (hid : S.H[id]? = some (.row g)) (hw : w'.heap = S.w.heap.push (.cells C e)) (hos : Rest S.w w')
  (hc : VRels S cells (C.toList.take cells.length)) (hl : cells.length = len * sz) (hle : len ≤ cap) (hsz : cap * sz ≤ C.size) (hn : cells.length ≤ C.size) :
  Rel ⟨S.H.set id (.row (g + 1)), upd S.ι id (some (S.w.heap.size, cells.length)), w'⟩ ∧ Ev S ⟨S.H.set id (.row (g + 1)), upd S.ι id (some (S.w.heap.size, cells.length)), w'⟩ ∧
   VRel ⟨S.H.set id (.row (g + 1)), upd S.ι id (some (S.w.heap.size, cells.length)), w'⟩ (.sl len cells (.own id (g + 1) sz)) (.slice (some ⟨S.w.heap.size, 0, none⟩) len cap) := by
 have hnb : w'.heap[S.w.heap.size]? = some (.cells C e (0, 0)) := by rw [hw]; simp
 have hlt := (List.getElem?_eq_some_iff.1 hid).1
 have hold : ∀ b, b < S.w.heap.size → w'.heap[b]? = S.w.heap[b]? := fun b hb => by rw [hw, Array.getElem?_push_lt hb]; simp [hb]
 have hown : ∀ b wm, S.ι id = some (b, wm) → ∃ C C' t t', S.w.heap[b]? = some (.cells C t (0, 0)) ∧ w'.heap[b]? = some (.cells C' t' (0, 0)) ∧ C'.size = C.size ∧ ∀ j, j < wm → C'[j]? = C[j]? := by
  intro b wm h
  obtain ⟨B, hB, hrel⟩ := hR.blk id b wm h
  rw [hid] at hB; cases hB
  obtain ⟨C0, t0, h0, _⟩ := hrel
  exact ⟨C0, C0, t0, t0, h0, (hold b (hR.block h)).trans h0, rfl, fun _ _ => rfl⟩
 have hev := Ev.row hR (wm' := cells.length) hid (fun b _ hb => hold b hb) hown (.inr (Nat.le_refl _)) hos
 refine ⟨Rel.row hR hid (fun b _ hb => hold b hb) hown (.inr (Nat.le_refl _)) ⟨C, e, hnb, hn⟩ hos, hev, ?_⟩
 simp only [VRel]
 have hidg : (S.H.set id (.row (g + 1)))[id]? = some (.row (g + 1)) := by simp [hlt]
 refine ⟨_, cap, rfl, hle, .inr ⟨_, 0, rfl, ⟨C, e, (0, 0), hnb, by omega, fun i wm h => ?_, fun _ hx => absurd (hR.out _ _ hx).1 (by omega)⟩, VRow.of_vals _ (VRels.ev hev _ _ hc) fun i c h => ?_⟩, hl, g + 1, hidg, Nat.le_refl _, fun _ => .inr ⟨_, 0, C, e, rfl, ?_, hnb, by omega⟩⟩
 ·by_cases hi : i = id
  ·subst hi
   have h' : upd S.ι i (some (S.w.heap.size, cells.length)) i = some (S.w.heap.size, wm) := h
   rw [upd_same] at h'; cases h'
   exact ⟨⟨g + 1, hidg⟩, by omega⟩
  ·have h' : upd S.ι id (some (S.w.heap.size, cells.length)) i = some (S.w.heap.size, wm) := h
   rw [upd_other _ _ _ _ hi] at h'
   exact absurd (hR.block h') (by omega)
 ·rw [cell_eq, hnb]
  rw [List.getElem?_take] at h
  split at h
  ·simpa using h
  ·cases h
 ·show upd _ _ _ _ = _
  rw [upd_same, Nat.zero_add]
theorem grown_here {S : Sit} (hR : Rel S) {C : Array Value} {t : TypeId} {cells new : List AV} {cs : List Value} {len n cap sz id g b o : Nat} (hid : S.H[id]? = some (.row g))
  (hi : S.ι id = some (b, o + cells.length)) (hC : S.w.heap[b]? = some (.cells C t (0, 0))) (hcap : o + cap * sz ≤ C.size) (hrow : cells = [] ∨ VRow S b o cells)
  (hnew : VRels S new cs) (h1 : new.all AV.one = true) (hl : cells.length = len * sz) (hn : new.length = n * sz) (hle : len + n ≤ cap) :
  ∃ w', (storeCells ((Addr.mk b o none).add (len * sz)) cs).run P S.w = .ok () w' ∧
   Rel ⟨S.H.set id (.row (g + 1)), upd S.ι id (some (b, o + (cells ++ new).length)), w'⟩ ∧ Ev S ⟨S.H.set id (.row (g + 1)), upd S.ι id (some (b, o + (cells ++ new).length)), w'⟩ ∧
   VRel ⟨S.H.set id (.row (g + 1)), upd S.ι id (some (b, o + (cells ++ new).length)), w'⟩ (.sl (len + n) (cells ++ new) (.own id (g + 1) sz)) (.slice (some ⟨b, o, none⟩) (len + n) cap) := by
 have hlt := (List.getElem?_eq_some_iff.1 hid).1
 have hmul : (len + n) * sz = len * sz + n * sz := Nat.add_mul ..
 have hmul2 : (len + n) * sz ≤ cap * sz := Nat.mul_le_mul_right _ hle
 have hncs := hnew.length
 obtain ⟨w', C', hrun, hs, ho, hb, hC', hre⟩ := run_storeCells (P := P) (b := b) (o := o + len * sz) (t := t) cs 0 S.w C hC (by omega) (hnew.oneCell h1)
 have hlC : C'.size = C.size := by
  have := congrArg List.length hC'
  rw [splice_length _ _ _ (by simp; omega)] at this
  simpa using this
 have hlow : ∀ j, j < o + cells.length → C'[j]? = C[j]? := fun j hj => by
  have e : C'.toList[j]? = C.toList[j]? := by
   rw [hC', splice, List.append_assoc, List.getElem?_append_left (by simp; omega), List.getElem?_take_of_lt (by omega)]
  simpa using e
 have hsame : ∀ b', (∀ wm, S.ι id ≠ some (b', wm)) → b' < S.w.heap.size → w'.heap[b']? = S.w.heap[b']? := fun b' hne _ => ho b' (by rintro rfl; exact hne _ hi)
 have hown : ∀ b' wm, S.ι id = some (b', wm) → ∃ C C' t t', S.w.heap[b']? = some (.cells C t (0, 0)) ∧ w'.heap[b']? = some (.cells C' t' (0, 0)) ∧ C'.size = C.size ∧ ∀ j, j < wm → C'[j]? = C[j]? := by
  intro b' wm h
  rw [hi] at h; cases h
  exact ⟨C, C', t, t, hC, hb, hlC, hlow⟩
 have hnb : (∃ wm, S.ι id = some (b, wm) ∧ wm ≤ o + (cells ++ new).length) ∨ S.w.heap.size ≤ b := .inl ⟨_, hi, by simp⟩
 have hev := Ev.row hR (wm' := o + (cells ++ new).length) hid hsame hown hnb hre
 have hidg : (S.H.set id (.row (g + 1)))[id]? = some (.row (g + 1)) := by simp [hlt]
 refine ⟨w', by rw [add_addr]; exact hrun, Rel.row hR hid hsame hown hnb ⟨C', t, hb, by simp; omega⟩ hre, hev, ?_⟩
 simp only [VRel]
 refine ⟨_, cap, rfl, hle, .inr ⟨b, o, rfl, ⟨C', t, (0, 0), hb, by simp; omega, fun i wm h => ?_, fun _ hx => absurd hi ((hR.out _ _ hx).2 _ _)⟩, ?_⟩, by simp; omega, g + 1, hidg, Nat.le_refl _, fun _ => .inr ⟨b, o, C', t, rfl, ?_, hb, by omega⟩⟩
 ·by_cases hi' : i = id
  ·subst hi'
   have h' : upd S.ι i (some (b, o + (cells ++ new).length)) i = some (b, wm) := h
   rw [upd_same] at h'; cases h'
   exact ⟨⟨g + 1, hidg⟩, Nat.le_refl _⟩
  ·have h' : upd S.ι id (some (b, o + (cells ++ new).length)) i = some (b, wm) := h
   rw [upd_other _ _ _ _ hi'] at h'
   exact absurd (hR.inj i id b wm _ h' hi) hi'
 ·have hv : ∃ cs0 : List Value, VRels S cells cs0 ∧ ∀ i c, cs0[i]? = some c → S.w.cell? ⟨b, o + i, none⟩ = some c := by
   rcases hrow with rfl | hrow
   ·exact ⟨[], by simp [VRels], by simp⟩
   ·exact hrow.vals
  obtain ⟨cs0, hv1, hv2⟩ := hv
  have hl0 := hv1.length
  refine VRow.of_vals b (VRels.ev hev _ _ (hv1.append hnew)) fun i c h => ?_
  rw [cell_eq, hb]
  show C'[o + i]? = some c
  by_cases hlt' : i < cs0.length
  ·rw [hlow _ (by omega)]
   rw [List.getElem?_append_left hlt'] at h
   have := hv2 i c h
   rw [cell_eq, hC] at this
   exact this
  ·rw [List.getElem?_append_right (by omega)] at h
   have e : C'.toList[o + i]? = some c := by
    have hlcs : i - cs0.length < cs.length := (List.getElem?_eq_some_iff.1 h).1
    rw [hC', splice, List.append_assoc, List.getElem?_append_right (by simp; omega), List.getElem?_append_left (by simp; omega)]
    rw [← h]
    congr 1
    simp; omega
   simpa using e
 ·show upd _ _ _ _ = _
  rw [upd_same]
theorem mgrown_new {S : Sit} (hR : Rel S) {w' : World} {C : Array Value} {e : TypeId} {cells : List AV} {len cap sz : Nat} (hw : w'.heap = S.w.heap.push (.cells C e)) (hos : Rest S.w w')
  (hc : VRels S cells (C.toList.take cells.length)) (hle : len ≤ cap) (hsz : cap * sz ≤ C.size) :
  Rel ⟨S.H ++ [.mrow 0 cells], upd S.ι S.H.length (some (S.w.heap.size, 0)), w'⟩ ∧ Ev S ⟨S.H ++ [.mrow 0 cells], upd S.ι S.H.length (some (S.w.heap.size, 0)), w'⟩ ∧
   VRel ⟨S.H ++ [.mrow 0 cells], upd S.ι S.H.length (some (S.w.heap.size, 0)), w'⟩ (.msl S.H.length 0 len sz) (.slice (some ⟨S.w.heap.size, 0, none⟩) len cap) := by
 have hev := Ev.alloc hR (.mrow 0 cells) 0 hw hos
 have hnb : w'.heap[S.w.heap.size]? = some (.cells C e (0, 0)) := by rw [hw]; simp
 refine ⟨Rel.alloc hR (.mrow 0 cells) 0 hw ⟨C, e, hnb, VRels.ev hev _ _ hc⟩ hos, hev, ?_⟩
 simp only [VRel]
 exact ⟨_, cap, rfl, hle, .inl ⟨_, rfl, .mrow 0 cells, 0, by simp, rfl, Nat.le_refl _, fun _ _ => ⟨_, 0, C, e, upd_same .., hnb, rfl, hsz⟩⟩⟩
theorem mgrown_move {S : Sit} (hR : Rel S) {w' : World} {C : Array Value} {e : TypeId} {old cells : List AV} {len cap sz id g : Nat} (hid : S.H[id]? = some (.mrow g old)) (hw : w'.heap = S.w.heap.push (.cells C e)) (hos : Rest S.w w')
    (hc : VRels S cells (C.toList.take cells.length)) (hle : len ≤ cap) (hsz : cap * sz ≤ C.size) :
    Rel ⟨S.H.set id (.mrow (g + 1) cells), upd S.ι id (some (S.w.heap.size, 0)), w'⟩ ∧ Ev S ⟨S.H.set id (.mrow (g + 1) cells), upd S.ι id (some (S.w.heap.size, 0)), w'⟩ ∧
      VRel ⟨S.H.set id (.mrow (g + 1) cells), upd S.ι id (some (S.w.heap.size, 0)), w'⟩ (.msl id (g + 1) len sz) (.slice (some ⟨S.w.heap.size, 0, none⟩) len cap) := by
  have hnb : w'.heap[S.w.heap.size]? = some (.cells C e (0, 0)) := by rw [hw]; simp
  have hlt := (List.getElem?_eq_some_iff.1 hid).1
  have hold : ∀ b, b < S.w.heap.size → w'.heap[b]? = S.w.heap[b]? := fun b hb => by rw [hw, Array.getElem?_push_lt hb]; simp [hb]
  have hk : ∀ p : Option (Nat × Nat), g + 1 = g → (∃ c1, Blk.mrow (g + 1) cells = .mrow g c1) ∧ p = S.ι id ∧ ∀ b wm C t, S.ι id = some (b, wm) → S.w.heap[b]? = some (.cells C t (0, 0)) →
      ∃ C' t', w'.heap[b]? = some (.cells C' t' (0, 0)) ∧ C'.size = C.size := fun p h => by omega
  have hev := Ev.mrow hR (w' := w') (B' := .mrow (g + 1) cells) (p := some (S.w.heap.size, 0)) hid rfl (by omega) (fun b _ hb => hold b hb) (hk _) (fun nb wm h => by cases h; exact .inr (Nat.le_refl _)) hos
  refine ⟨Rel.mrow hR (w' := w') (B' := .mrow (g + 1) cells) hid rfl (by omega) (fun b _ hb => hold b hb) (hk _) (.inr (Nat.le_refl _)) ⟨C, e, hnb, VRels.ev hev _ _ hc⟩ hos, hev, ?_⟩
  simp only [VRel]
  exact ⟨_, cap, rfl, hle, .inl ⟨_, rfl, .mrow (g + 1) cells, g + 1, by simp [hlt], rfl, Nat.le_refl _, fun _ _ => ⟨_, 0, C, e, upd_same .., hnb, rfl, hsz⟩⟩⟩
theorem mgrown_here {S : Sit} (hR : Rel S) {C : Array Value} {t : TypeId} {cells0 cells new : List AV} {cs : List Value} {len n cap sz id g b wm : Nat} (hid : S.H[id]? = some (.mrow g cells0))
    (hi : S.ι id = some (b, wm)) (hC : S.w.heap[b]? = some (.cells C t (0, 0))) (hcs : VRels S cells (C.toList.take cells.length)) (hcap : cap * sz ≤ C.size)
    (hnew : VRels S new cs) (h1 : new.all AV.one = true) (hl : cells.length = len * sz) (hn : new.length = n * sz) (hle : len + n ≤ cap) :
    ∃ w', (storeCells ((Addr.mk b 0 none).add (len * sz)) cs).run P S.w = .ok () w' ∧
      Rel ⟨S.H.set id (.mrow (g + 1) (cells ++ new)), upd S.ι id (some (b, wm)), w'⟩ ∧ Ev S ⟨S.H.set id (.mrow (g + 1) (cells ++ new)), upd S.ι id (some (b, wm)), w'⟩ ∧
      VRel ⟨S.H.set id (.mrow (g + 1) (cells ++ new)), upd S.ι id (some (b, wm)), w'⟩ (.msl id (g + 1) (len + n) sz) (.slice (some ⟨b, 0, none⟩) (len + n) cap) := by
  have hlt := (List.getElem?_eq_some_iff.1 hid).1
  have hmul : (len + n) * sz = len * sz + n * sz := Nat.add_mul ..
  have hmul2 : (len + n) * sz ≤ cap * sz := Nat.mul_le_mul_right _ hle
  have hncs := hnew.length
  obtain ⟨w', C', hrun, hs, ho, hb, hC', hre⟩ := run_storeCells (P := P) (b := b) (o := 0 + len * sz) (t := t) cs 0 S.w C hC (by omega) (hnew.oneCell h1)
  have hlC : C'.size = C.size := by
    have := congrArg List.length hC'
    rw [splice_length _ _ _ (by simp; omega)] at this
    simpa using this
  have hsame : ∀ b', (∀ wm, S.ι id ≠ some (b', wm)) → b' < S.w.heap.size → w'.heap[b']? = S.w.heap[b']? := fun b' hne _ => ho b' (by rintro rfl; exact hne _ hi)
  have hk : ∀ p : Option (Nat × Nat), g + 1 = g → (∃ c1, Blk.mrow (g + 1) (cells ++ new) = .mrow g c1) ∧ p = S.ι id ∧ ∀ b wm C t, S.ι id = some (b, wm) → S.w.heap[b]? = some (.cells C t (0, 0)) →
      ∃ C' t', w'.heap[b]? = some (.cells C' t' (0, 0)) ∧ C'.size = C.size := fun p h => by omega
  have hev := Ev.mrow hR (w' := w') (B' := .mrow (g + 1) (cells ++ new)) (p := some (b, wm)) hid rfl (by omega) hsame (hk _) (fun nb wm h => by cases h; exact .inl ⟨_, hi⟩) hre
  have hcont : C'.toList.take (cells ++ new).length = C.toList.take cells.length ++ cs := by
    rw [hC', splice, Nat.add_zero, Nat.zero_add, ← hl, List.append_assoc, List.length_append, hncs]
    have e1 : (List.take cells.length C.toList).length = cells.length := by simp; omega
    rw [List.take_append, e1, List.take_of_length_le (by rw [e1]; omega), show cells.length + cs.length - cells.length = cs.length by omega, List.take_left' rfl]
  refine ⟨w', by rw [add_addr]; exact hrun, Rel.mrow hR (w' := w') (B' := .mrow (g + 1) (cells ++ new)) hid rfl (by omega) hsame (hk _) (.inl ⟨_, hi⟩) ⟨C', t, hb, ?_⟩ hre, hev, ?_⟩
  · rw [hcont]; exact VRels.ev hev _ _ (hcs.append hnew)
  · simp only [VRel]
    exact ⟨_, cap, rfl, hle, .inl ⟨_, rfl, .mrow (g + 1) (cells ++ new), g + 1, by simp [hlt], rfl, Nat.le_refl _, fun _ _ => ⟨b, wm, C', t, upd_same .., hb, rfl, by omega⟩⟩⟩
omit [Outer] in
theorem tz_info {t : TypeId} {z : Value} (h : tz P t = some z) : ∃ i, P.info? t = some i ∧ i.zero = some z := by
 unfold tz at h
 cases hi : P.info? t with
 | none => simp [hi] at h
 | some i => simp [hi] at h; exact ⟨i, rfl, h⟩
theorem appA_sound {m : Bool} {S : Sit} (hR : Rel S) {argTypes : Array TypeId} {ty sT xT : TypeId} {s x v : AV} {H' : List Blk} {c cx : Value}
  (h0 : argTypes[0]? = some sT) (h1 : argTypes[1]? = some xT) (h : appA P m S.H sT xT s x = some (v, H')) (hs : VRel S s c) (hx : VRel S x cx) :
  ∃ (u : Value) (ι' : Nat → Option (Nat × Nat)) (w' : World), (Builtin.append_ argTypes ty #[c, cx]).run P S.w = .ok u w' ∧ Rel ⟨H', ι', w'⟩ ∧ Ev S ⟨H', ι', w'⟩ ∧ Non S ⟨H', ι', w'⟩ ∧
   VRel ⟨H', ι', w'⟩ v u := by
 unfold appA at h
 cases hsl : tslice P sT with
 | none => simp [hsl] at h
 | some e =>
 cases hz : tsz P e with
 | none => simp [hsl, hz] at h
 | some size =>
 cases hzv : tz P e with
 | none => simp [hsl, hz, hzv] at h
 | some z =>
 cases hby : tbytes P e with
 | none => simp [hsl, hz, hzv, hby] at h
 | some bytes =>
 simp only [hsl, hz, hzv, hby] at h
 split at h
 case isFalse => cases h
 case isTrue hg =>
 simp only [Bool.and_eq_true, decide_eq_true_eq] at hg
 obtain ⟨hsrc, hbytes, hzsz⟩ := hg
 cases hcs : srcCells S.H size x with
 | none => simp [hcs] at h
 | some p =>
 obtain ⟨n, new⟩ := p
 simp only [hcs] at h
 obtain ⟨i, hi, hiz⟩ := tz_info hzv
 obtain ⟨i', hi', hib⟩ := run_info hby
 rw [hi] at hi'; cases hi'
 obtain ⟨hnl, hlen, C, hf, hnew⟩ := srcCells_sound (P := P) hR hcs hx
 have hCsz := hnew.toArray
 have hrun := fun base len cap => append_run (P := P) (ty := ty) (base := base) (len := len) (cap := cap) h0 h1 hsl hz hsrc hi hlen hf
 split at h
 ·-- nil
  simp only [VRel] at hs; subst hs
  split at h
  ·rename_i hn0
   cases h
   subst hn0
   have hC0 : C = #[] := by
    have : C.size = 0 := by omega
    exact Array.eq_empty_of_size_eq_zero this
   refine ⟨_, S.ι, S.w, (hrun none 0 0).1 (Nat.le_refl _), hR, Ev.refl S, Non.refl S, by simp [VRel]⟩
  ·split at h
   ·rename_i hn0 hn1
    obtain ⟨newCap, w1, hc1, ⟨hw1, hre1⟩, hr⟩ := (hrun none 0 0).2 (by omega) (by omega) (by omega) z #[] hiz (fun w' _ => rfl)
    have hl0 : new.length = n * size := hnl
    have hnc : n ≤ newCap := by omega
    have hmul : n * size ≤ newCap * size := Nat.mul_le_mul_right _ hnc
    have hsub : (newCap - n) * size = newCap * size - n * size := Nat.sub_mul ..
    have htake : (#[] ++ C ++ Builtin.zeroCells z.cells (newCap - (0 + n))).toList.take new.length = C.toList := by
     have e : (#[] ++ C ++ Builtin.zeroCells z.cells (newCap - (0 + n))).toList = C.toList ++ (Builtin.zeroCells z.cells (newCap - (0 + n))).toList := by simp
     rw [e, List.take_append_of_le_length (by simp; omega), List.take_of_length_le (by simp; omega)]
    split at h
    ·cases h
     obtain ⟨k1, k2, k3⟩ := mgrown_new hR (cells := new) (len := n) (cap := newCap) (sz := size) (e := e) (C := #[] ++ C ++ Builtin.zeroCells z.cells (newCap - (0 + n)))
      (w' := { w1 with heap := w1.heap.push (.cells (#[] ++ C ++ Builtin.zeroCells z.cells (newCap - (0 + n))) e) }) (by simp [hw1]) hre1
      (by rw [htake]; exact hnew) hnc (by simp [zeroCells_size, hzsz]; omega)
     exact ⟨_, _, _, by rw [hr, Nat.zero_add], k1, k2, Non.alloc, k3⟩
    ·cases h
     obtain ⟨k1, k2, k3⟩ := grown_new hR (cells := new) (len := n) (cap := newCap) (sz := size) (e := e) (C := #[] ++ C ++ Builtin.zeroCells z.cells (newCap - (0 + n)))
      (w' := { w1 with heap := w1.heap.push (.cells (#[] ++ C ++ Builtin.zeroCells z.cells (newCap - (0 + n))) e) }) (by simp [hw1]) hre1
      (by rw [htake]; exact hnew) hl0 hnc (by simp [zeroCells_size, hzsz]; omega) (by simp; omega)
     exact ⟨_, _, _, by rw [hr, Nat.zero_add], k1, k2, Non.alloc, k3⟩
   ·cases h
 ·-- a row that is written
  rename_i id g len sz
  have hs' := hs
  simp only [VRel] at hs
  obtain ⟨base, cap, rfl, hlc, hm⟩ := hs
  split at h
  ·rename_i hn0
   cases h
   subst hn0
   have hC0 : C = #[] := by
    have : C.size = 0 := by omega
    exact Array.eq_empty_of_size_eq_zero this
   rcases hm with ⟨b, rfl, _⟩ | ⟨rfl, rfl, _⟩
   ·refine ⟨_, S.ι, S.w, ?_, hR, Ev.refl S, Non.refl S, hs'⟩
    rw [(hrun _ len cap).1 (by omega), hC0]
    simp [storeCells]
   ·obtain rfl : len = 0 := by omega
    exact ⟨_, S.ι, S.w, (hrun none 0 0).1 (Nat.le_refl _), hR, Ev.refl S, Non.refl S, hs'⟩
  ·rename_i hn0
   cases hB : S.H[id]? with
   | none => simp [hB] at h
   | some B =>
   cases B with
   | mrow g0 cells =>
    simp only [hB] at h
    split at h
    case isFalse => cases h
    case isTrue hg =>
    obtain ⟨rfl, rfl, hcl, hbig, hone⟩ := hg
    cases h
    rcases hm with ⟨b, rfl, hm⟩ | ⟨rfl, rfl, _⟩
    case inr =>
     obtain rfl : len = 0 := by omega
     obtain ⟨newCap, w1, hc1, ⟨hw1, hre1⟩, hr⟩ := (hrun none 0 0).2 (by omega) (by omega) (by omega) z #[] hiz (fun w' _ => rfl)
     have hl0 : new.length = n * sz := hnl
     have hnc : n ≤ newCap := by omega
     have hmul : n * sz ≤ newCap * sz := Nat.mul_le_mul_right _ hnc
     have hsub : (newCap - n) * sz = newCap * sz - n * sz := Nat.sub_mul ..
     have hnil : cells.take (0 * sz) ++ new = new := by simp
     have htake : (#[] ++ C ++ Builtin.zeroCells z.cells (newCap - (0 + n))).toList.take new.length = C.toList := by
      have e : (#[] ++ C ++ Builtin.zeroCells z.cells (newCap - (0 + n))).toList = C.toList ++ (Builtin.zeroCells z.cells (newCap - (0 + n))).toList := by simp
      rw [e, List.take_append_of_le_length (by simp; omega), List.take_of_length_le (by simp; omega)]
     obtain ⟨k1, k2, k3⟩ := mgrown_move hR (cells := new) (len := n) (cap := newCap) (sz := sz) (e := e) (C := #[] ++ C ++ Builtin.zeroCells z.cells (newCap - (0 + n)))
      (w' := { w1 with heap := w1.heap.push (.cells (#[] ++ C ++ Builtin.zeroCells z.cells (newCap - (0 + n))) e) }) hB (by simp [hw1]) hre1
      (by rw [htake]; exact hnew) hnc (by simp [zeroCells_size, hzsz]; omega)
     rw [hnil, Nat.zero_add]
     exact ⟨_, _, _, by rw [hr, Nat.zero_add], k1, k2, Non.mrow hB, k3⟩
    obtain ⟨b', wm, C0, t0, hi0, hC0, rfl, hcap⟩ := hm.here hB
    obtain ⟨C1, t1, hC1, hr1⟩ := get_mrow hR hi0 hB
    rw [hC0] at hC1; cases hC1
    have hlen1 := hr1.length
    have hlc0 : cells.length ≤ C0.size := by simp at hlen1; omega
    have hcl' : (cells.take (len * sz)).length = len * sz := by simp; omega
    have hr2 : VRels S (cells.take (len * sz)) (C0.toList.take (cells.take (len * sz)).length) := by
     have := hr1.take (len * sz)
     rw [List.take_take, Nat.min_eq_left hcl] at this
     rw [hcl']
     exact this
    by_cases hfit : len + n ≤ cap
    ·obtain ⟨w', k0, k1, k2, k3⟩ := mgrown_here (P := P) hR hB hi0 hC0 hr2 hcap hnew hone hcl' hnl hfit
     refine ⟨_, _, w', ?_, k1, k2, Non.mrow hB, k3⟩
     rw [(hrun _ len cap).1 hfit]
     simp only [k0, Result.andThen_ok]
    ·have holdrun : ∀ w', w'.heap = S.w.heap → (Builtin.firstCells sz len (.slice (some ⟨b', 0, none⟩) len cap)).run P w' = .ok (C0.toList.take (len * sz)).toArray w' := by
      intro w' hw
      simp only [Builtin.firstCells]
      refine run_loadCells (cs := C0.toList) (fun i c hc => ?_) (by simp; omega)
      rw [cell_eq, hw, hC0]
      simpa using hc
     obtain ⟨newCap, w1, hc1, ⟨hw1, hre1⟩, hr⟩ := (hrun (some ⟨b', 0, none⟩) len cap).2 (by omega) (by omega) (by omega) z _ hiz holdrun
     have hsub : (newCap - (len + n)) * sz = newCap * sz - (len + n) * sz := Nat.sub_mul ..
     have hmul : (len + n) * sz ≤ newCap * sz := Nat.mul_le_mul_right _ hc1
     have hmul2 : (len + n) * sz = len * sz + n * sz := Nat.add_mul ..
     obtain ⟨k1, k2, k3⟩ := mgrown_move hR (cells := cells.take (len * sz) ++ new) (len := len + n) (cap := newCap) (sz := sz) (C := (C0.toList.take (len * sz)).toArray ++ C ++ Builtin.zeroCells z.cells (newCap - (len + n))) (e := e)
      (w' := { w1 with heap := w1.heap.push (.cells ((C0.toList.take (len * sz)).toArray ++ C ++ Builtin.zeroCells z.cells (newCap - (len + n))) e) }) hB (by simp [hw1]) hre1
      (by
       rw [show ((C0.toList.take (len * sz)).toArray ++ C ++ Builtin.zeroCells z.cells (newCap - (len + n))).toList.take (cells.take (len * sz) ++ new).length = C0.toList.take (cells.take (len * sz)).length ++ C.toList by
        simp only [Array.toList_append, hcl']
        rw [List.take_append_of_le_length (by simp; omega), List.take_of_length_le (by simp; omega)]]
       exact hr2.append hnew) hc1 (by
       simp only [Array.size_append, zeroCells_size, hzsz]
       have : (C0.toList.take (len * sz)).toArray.size = len * sz := by simp; omega
       omega)
     exact ⟨_, _, _, hr, k1, k2, Non.mrow hB, k3⟩
   | _ => simp [hB] at h
 ·-- a slice
  rename_i len cells tail
  have hs' := hs
  simp only [VRel] at hs
  obtain ⟨base, cap, rfl, hlc, hcells, htail⟩ := hs
  split at h
  ·rename_i hn0
   cases h
   subst hn0
   have hC0 : C = #[] := by
    have : C.size = 0 := by omega
    exact Array.eq_empty_of_size_eq_zero this
   refine ⟨_, S.ι, S.w, ?_, hR, Ev.refl S, Non.refl S, hs'⟩
   rw [(hrun base len cap).1 (by omega), hC0]
   cases base <;> simp [storeCells]
  ·rename_i hn0
   split at h
   case isFalse => cases h
   case isTrue hg =>
   obtain ⟨hcl, hbig⟩ := hg
   have hsum : (cells ++ new).length = (len + n) * size := by simp [Nat.add_mul]; omega
   obtain ⟨old, hold, holdrun⟩ := sl_cells (P := P) hcl hs'
   have holds := hold.toArray
   have hcat : ∀ newCap, VRels S (cells ++ new) ((old ++ C ++ Builtin.zeroCells z.cells (newCap - (len + n))).toList.take (cells ++ new).length) := by
    intro newCap
    rw [show (old ++ C ++ Builtin.zeroCells z.cells (newCap - (len + n))).toList.take (cells ++ new).length = old.toList ++ C.toList by
     simp only [Array.toList_append]
     rw [List.take_append_of_le_length (by simp; omega), List.take_of_length_le (by simp; omega)]]
    exact hold.append hnew
   have hsz : ∀ newCap, len + n ≤ newCap → newCap * size ≤ (old ++ C ++ Builtin.zeroCells z.cells (newCap - (len + n))).size ∧ (cells ++ new).length ≤ (old ++ C ++ Builtin.zeroCells z.cells (newCap - (len + n))).size := by
    intro newCap hle
    have hsub : (newCap - (len + n)) * size = newCap * size - (len + n) * size := Nat.sub_mul ..
    have hmul : (len + n) * size ≤ newCap * size := Nat.mul_le_mul_right _ hle
    simp only [Array.size_append, zeroCells_size, hzsz]
    rw [hsum]
    simp only [List.length_append] at hsum
    omega
   split at h
   ·cases h
   ·-- full
    have hcap : cap = len := htail
    obtain ⟨newCap, w1, hc1, ⟨hw1, hre1⟩, hr⟩ := (hrun base len cap).2 (by omega) (by omega) (by omega) z old hiz holdrun
    split at h
    ·cases h
     obtain ⟨k1, k2, k3⟩ := mgrown_new hR (cells := cells ++ new) (len := len + n) (cap := newCap) (sz := size) (C := old ++ C ++ Builtin.zeroCells z.cells (newCap - (len + n))) (e := e)
      (w' := { w1 with heap := w1.heap.push (.cells (old ++ C ++ Builtin.zeroCells z.cells (newCap - (len + n))) e) }) (by simp [hw1]) hre1 (hcat newCap) hc1 (hsz newCap hc1).1
     exact ⟨_, _, _, hr, k1, k2, Non.alloc, k3⟩
    cases h
    obtain ⟨k1, k2, k3⟩ := grown_new hR (cells := cells ++ new) (len := len + n) (cap := newCap) (sz := size) (C := old ++ C ++ Builtin.zeroCells z.cells (newCap - (len + n))) (e := e)
     (w' := { w1 with heap := w1.heap.push (.cells (old ++ C ++ Builtin.zeroCells z.cells (newCap - (len + n))) e) }) (by simp [hw1]) hre1 (hcat newCap) hsum hc1 (hsz newCap hc1).1 (hsz newCap hc1).2
    exact ⟨_, _, _, hr, k1, k2, Non.alloc, k3⟩
   ·-- its own row
    rename_i id g sz
    cases hB : S.H[id]? with
    | none => simp [hB] at h
    | some B =>
    cases B with
    | row g0 =>
     simp only [hB] at h
     split at h
     case isFalse => cases h
     case isTrue hg =>
     obtain ⟨rfl, rfl, hone⟩ := hg
     cases h
     obtain ⟨_, g1, hB', _, hloc⟩ := htail
     rw [hB] at hB'; cases hB'
     by_cases hfit : len + n ≤ cap
     ·rcases hloc rfl with hcap | ⟨b, o, C0, t, rfl, hi0, hC0, hcap⟩
      ·omega
      ·have hrow : cells = [] ∨ VRow S b o cells := by
        rcases hcells with hc | ⟨b', o', he, _, hr⟩
        ·exact .inl hc
        ·cases he; exact .inr hr
       obtain ⟨w', k0, k1, k2, k3⟩ := grown_here (P := P) hR hB hi0 hC0 hcap hrow hnew hone hcl hnl hfit
       refine ⟨_, _, w', ?_, k1, k2, Non.row hB, k3⟩
       rw [(hrun _ len cap).1 hfit]
       simp only [k0, Result.andThen_ok]
     ·obtain ⟨newCap, w1, hc1, ⟨hw1, hre1⟩, hr⟩ := (hrun base len cap).2 (by omega) (by omega) (by omega) z old hiz holdrun
      obtain ⟨k1, k2, k3⟩ := grown_move hR (cells := cells ++ new) (len := len + n) (cap := newCap) (C := old ++ C ++ Builtin.zeroCells z.cells (newCap - (len + n))) (e := e)
       (w' := { w1 with heap := w1.heap.push (.cells (old ++ C ++ Builtin.zeroCells z.cells (newCap - (len + n))) e) }) hB (by simp [hw1]) hre1 (hcat newCap) hsum hc1 (hsz newCap hc1).1 (hsz newCap hc1).2
      exact ⟨_, _, _, hr, k1, k2, Non.row hB, k3⟩
    | _ => simp [hB] at h
 ·cases h
end Go.Vm
