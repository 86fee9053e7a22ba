/-
  Texts of the proof, part 2: the machine, contracts of functions, plain laws. (Own work.)
-/
import Derived.Test.YteefbiehcfmoeaaGreatDoorG01DalangParses
import Derived.Laws.StructEq

namespace Go.Vm
variable [Outer]
variable {P : Program}
def callable (P : Program) (f : FuncId) : Bool := match P.funcs[f]? with | some fn => fn.body.isSome && fn.name != "runtime.NumGoroutine" | none => false
inductive AR where
 | val (v : AV) (H : List Blk)
 | call (f : FuncId) (args : List AV)
 | round (id : Nat) (args : List AV)
 | pan (v : AV)
def AR.Ok (P : Program) (S : Sit) (r : AR) (x : Result Next) : Prop :=
  match r with
  | .val v H' => ∃ c ι' w', (x = .ok (.value c) w' ∨ (x = .ok .skip w' ∧ c = undef)) ∧ Rel ⟨H', ι', w'⟩ ∧ Ev S ⟨H', ι', w'⟩ ∧ Non S ⟨H', ι', w'⟩ ∧ VRel ⟨H', ι', w'⟩ v c
  | .call f args => callable P f = true → ∃ cs : Array Value, x = .ok (.enter f cs) S.w ∧ VRels S args cs.toList
  | .round id args => ∃ b wm L, ∃ cs : Array Value, S.ι id = some (b, wm) ∧ notRow S.H id ∧ S.w.heap[b]? = some (.loop L) ∧ cs.size = L.params.size ∧
      x = .ok (.round b L.fn ((L.params.zip cs).foldl (fun tmps (t, a) => tmps.setIfInBounds t a) L.tmps) L.assign L.body) S.w ∧ VRels S args cs.toList
  | .pan v => ∃ c, x = .halt (.panic c) S.w ∧ VRel S v c
theorem AR.Ok.here {S : Sit} (hR : Rel S) {v : AV} {c : Value} {x : Result Next} (hx : x = .ok (.value c) S.w) (hv : VRel S v c) : AR.Ok P S (.val v S.H) x :=
 ⟨c, S.ι, S.w, .inl hx, hR, Ev.refl S, Non.refl S, hv⟩
def cellsAt (H : List Blk) : AV → Option (List AV)
 | .ptr id off => match H[id]? with
  | some (.box cells _) => some (cells.drop off)
  | _ => none
 | .eptr cells => some cells
 | .mptr id gen off => match H[id]? with
  | some (.mrow g cells) => if g = gen then some (cells.drop off) else none
  | _ => none
 | _ => none
theorem cellsAt_sound {S : Sit} (hR : Rel S) {x : AV} {c : Value} {cells : List AV} (h : cellsAt S.H x = some cells) (hx : VRel S x c) :
  ∃ b o, c = .pointer (some ⟨b, o, none⟩) ∧ ∃ cs : List Value, VRels S cells cs ∧ ∀ i d, cs[i]? = some d → S.w.cell? ⟨b, o + i, none⟩ = some d := by
 unfold cellsAt at h
 split at h
 ·rename_i id off
  cases hB : S.H[id]? with
  | none => simp [hB] at h
  | some B =>
   cases B with
   | box cells' t =>
    simp only [hB] at h; cases h
    simp only [VRel] at hx
    obtain ⟨b, wm, hi, _, rfl⟩ := hx
    obtain ⟨B, hB', hrel⟩ := hR.blk id b wm hi
    rw [hB] at hB'; cases hB'
    obtain ⟨C, hC, hr⟩ := hrel
    refine ⟨b, off, rfl, C.toList.drop off, hr.drop off, fun i d hd => ?_⟩
    rw [cell_eq, hC]
    simpa using hd
   | _ => simp [hB] at h
 ·rename_i cells'
  cases h
  simp only [VRel] at hx
  obtain ⟨b, o, rfl, _, hr⟩ := hx
  obtain ⟨cs, h1, h2⟩ := hr.vals
  exact ⟨b, o, rfl, cs, h1, h2⟩
 ·rename_i id gen off
  cases hB : S.H[id]? with
  | none => simp [hB] at h
  | some B =>
   cases B with
   | mrow g cells' =>
    simp only [hB] at h
    split at h
    ·rename_i hg
     subst hg
     cases h
     simp only [VRel] at hx
     obtain ⟨b, o, rfl, hm⟩ := hx
     obtain ⟨b', wm, C, t, hi, hC, rfl, rfl⟩ := hm.here hB
     obtain ⟨C', t', hC', hr⟩ := get_mrow hR hi hB
     rw [hC] at hC'; cases hC'
     refine ⟨b', o, rfl, (C.toList.take cells'.length).drop o, hr.drop o, fun i d hd => ?_⟩
     rw [cell_eq, hC]
     rw [List.getElem?_drop, List.getElem?_take] at hd
     split at hd
     ·simpa using hd
     ·cases hd
    ·cases h
   | _ => simp [hB] at h
 ·cases h
def loadOp (P : Program) (H : List Blk) (t : TypeId) (x : AV) : Option AV := (cellsAt H x).bind (loadA P t)
theorem loadOp_sound {S : Sit} (hR : Rel S) {t : TypeId} {x v : AV} {c : Value} (h : loadOp P S.H t x = some v) (hx : VRel S x c) :
  ∃ d, (Instr.loadAt t c).run P S.w = .ok d S.w ∧ VRel S v d := by
 unfold loadOp at h
 cases hc : cellsAt S.H x with
 | none => simp [hc] at h
 | some cells =>
  simp only [hc, Option.bind_some] at h
  obtain ⟨b, o, rfl, cs, h1, h2⟩ := cellsAt_sound hR hc hx
  obtain ⟨d, hd, hv⟩ := run_loadA h h1 h2
  refine ⟨d, ?_, hv⟩
  unfold Instr.loadAt
  rw [Sem.run_bind]
  exact hd
def storeOp (P : Program) (H : List Blk) (t : TypeId) (x v : AV) : Option (List Blk) :=
 match x with
 | .ptr id off => match H[id]?, tsz P t with
  | some (.box cells bt), some n => if v.cellsOf.length = n ∧ off + n ≤ cells.length ∧ v.cellsOf.all AV.one = true then some (H.set id (.box (splice cells off v.cellsOf) bt)) else none
  | _, _ => none
 | .mptr id gen off => match H[id]?, tsz P t with
  | some (.mrow g cells), some n => if g = gen ∧ v.cellsOf.length = n ∧ off + n ≤ cells.length ∧ v.cellsOf.all AV.one = true then some (H.set id (.mrow g (splice cells off v.cellsOf))) else none
  | _, _ => none
 | _ => none
theorem storeOp_sound {S : Sit} (hR : Rel S) {t : TypeId} {x v : AV} {c d : Value} {H' : List Blk} (h : storeOp P S.H t x v = some H') (hx : VRel S x c) (hv : VRel S v d) :
  ∃ w', (Instr.storeAt t c d).run P S.w = .ok () w' ∧ Rel ⟨H', S.ι, w'⟩ ∧ Ev S ⟨H', S.ι, w'⟩ := by
 unfold storeOp at h
 split at h
 ·rename_i id off
  split at h
  ·rename_i cells bt n hB ht
   split at h
   ·rename_i hg
    cases h
    simp only [VRel] at hx
    obtain ⟨b, wm, hi, _, rfl⟩ := hx
    obtain ⟨w', h1, h2, h3⟩ := store_box (P := P) hR hi hB hv ht hg.1 hg.2.1 hg.2.2
    refine ⟨w', ?_, h2, h3⟩
    unfold Instr.storeAt
    rw [Sem.run_bind]
    exact h1
   ·cases h
  ·cases h
 ·rename_i id gen off
  split at h
  ·rename_i g cells n hB ht
   split at h
   ·rename_i hg
    obtain ⟨rfl, hg⟩ := hg
    cases h
    simp only [VRel] at hx
    obtain ⟨b, o, rfl, hm⟩ := hx
    obtain ⟨b', wm, C, t, hi, hC, rfl, rfl⟩ := hm.here hB
    obtain ⟨w', h1, h2, h3⟩ := store_mrow (P := P) hR hi hB hv ht hg.1 hg.2.1 hg.2.2
    refine ⟨w', ?_, h2, h3⟩
    unfold Instr.storeAt
    rw [Sem.run_bind]
    exact h1
   ·cases h
  ·cases h
 ·cases h
def tfield (P : Program) (t : TypeId) (i : Nat) : Option Field := match P.underlying t with | some (.struct fs) => fs[i]? | _ => none
omit [Outer] in
theorem tfield_eq {t : TypeId} {i : Nat} {f : Field} (h : tfield P t i = some f) : ∃ fs, P.underlying t = some (.struct fs) ∧ fs[i]? = some f := by
 unfold tfield at h
 split at h
 ·rename_i fs h'; exact ⟨fs, h', h⟩
 ·cases h
def moveA (n : Nat) : AV → Option AV
 | .ptr id off => some (.ptr id (off + n))
 | .eptr cells => if n ≤ cells.length then some (.eptr (cells.drop n)) else none
 | .mptr id gen off => some (.mptr id gen (off + n))
 | _ => none
theorem Fix.drop {S : Sit} {b o : Nat} {cells : List AV} (n : Nat) (h : Fix S b (o + cells.length)) (hn : n ≤ cells.length) : Fix S b (o + n + (cells.drop n).length) := by
 rw [List.length_drop, show o + n + (cells.length - n) = o + cells.length by omega]; exact h
theorem Fix.mono {S : Sit} {b lim lim' : Nat} (h : Fix S b lim) (hl : lim' ≤ lim) : Fix S b lim' := by
 obtain ⟨C, t, f, a, hs, r, ro⟩ := h
 exact ⟨C, t, f, a, by omega, fun id wm e => ⟨(r id wm e).1, by have := (r id wm e).2; omega⟩, fun x e => by obtain ⟨l, hx, hl'⟩ := ro x e; exact ⟨l, hx, by omega⟩⟩
theorem moveA_sound {S : Sit} {n : Nat} {x y : AV} {c : Value} (h : moveA n x = some y) (hx : VRel S x c) :
  ∃ b o, c = .pointer (some ⟨b, o, none⟩) ∧ VRel S y (.pointer (some ⟨b, o + n, none⟩)) := by
 unfold moveA at h
 split at h
 ·rename_i id off
  cases h
  simp only [VRel] at hx
  obtain ⟨b, wm, hi, hn, rfl⟩ := hx
  exact ⟨b, off, rfl, by simp only [VRel]; exact ⟨b, wm, hi, hn, rfl⟩⟩
 ·rename_i cells
  split at h
  ·rename_i hn
   cases h
   simp only [VRel] at hx
   obtain ⟨b, o, rfl, hf, hr⟩ := hx
   exact ⟨b, o, rfl, by simp only [VRel]; exact ⟨b, o + n, rfl, hf.drop n hn, hr.drop b n⟩⟩
  ·cases h
 ·rename_i id gen off
  cases h
  simp only [VRel] at hx
  obtain ⟨b, o, rfl, B, g, hB, hm, hle, k⟩ := hx
  refine ⟨b, o, rfl, ?_⟩
  simp only [VRel]
  refine ⟨b, o + n, rfl, B, g, hB, hm, hle, fun h1 h2 => ?_⟩
  obtain ⟨b', wm, C, t, hi, hC, h3, h4⟩ := k h1 h2
  exact ⟨b', wm, C, t, hi, hC, h3, by rw [h4]⟩
 ·cases h
def fieldOp (P : Program) (t : TypeId) (x : AV) (i : Nat) : Option AV :=
 match tfield P t i with
 | some f => match tsz P f.type with
  | some (_ + 1) => moveA f.offset x
  | _ => none
 | none => none
theorem fieldOp_sound {S : Sit} {t : TypeId} {x y : AV} {i : Nat} {c : Value} (h : fieldOp P t x i = some y) (hx : VRel S x c) :
  ∃ d, (Instr.fieldAt t c i).run P S.w = .ok d S.w ∧ VRel S y d := by
 unfold fieldOp at h
 cases hf : tfield P t i with
 | none => simp [hf] at h
 | some f =>
  simp only [hf] at h
  split at h
  ·rename_i n hs
   obtain ⟨fs, hu, hi⟩ := tfield_eq hf
   obtain ⟨b, o, rfl, hv⟩ := moveA_sound h hx
   refine ⟨_, ?_, hv⟩
   unfold Instr.fieldAt
   rw [Sem.run_bind, run_underlying hu]
   simp only [Result.andThen_ok, hi]
   rw [Sem.run_bind]
   show ((fieldPlace ⟨b, o, none⟩ f >>= fun a => pure (Value.pointer (some a)) : Sem Value)).run P S.w = _
   rw [Sem.run_bind]
   unfold fieldPlace
   rw [Sem.run_bind, run_tsz hs]
   simp only [Result.andThen_ok]
   rw [if_neg (by omega), add_addr]
   rfl
  ·cases h
def indexOp (P : Program) (t : TypeId) (x ix : AV) : Option AV :=
 match ix with
 | .lit (.int _ i) =>
  match P.underlying t with
  | some (.array len elem) => match tsz P elem with
   | some n => if 0 ≤ i ∧ i < len then moveA (i.toNat * n) x else none
   | none => none
  | some (.slice elem) => match tsz P elem with
   | some n => match x with
    | .sl len cells _ => if 0 ≤ i ∧ i < len ∧ i.toNat * n + n ≤ cells.length ∧ 0 < n then some (.eptr ((cells.drop (i.toNat * n)).take n)) else none
    | .hsl id off len _ => if 0 ≤ i ∧ i < len then some (.ptr id (off + i.toNat * n)) else none
    | .msl id gen len _ => if 0 ≤ i ∧ i < len then some (.mptr id gen (i.toNat * n)) else none
    | _ => none
   | none => none
  | _ => none
 | _ => none
theorem indexOp_sound {S : Sit} {t : TypeId} {x ix y : AV} {c ci : Value} (h : indexOp P t x ix = some y) (hx : VRel S x c) (hi : VRel S ix ci) :
  ∃ d, (Instr.indexAt t c ci).run P S.w = .ok d S.w ∧ VRel S y d := by
 unfold indexOp at h
 split at h
 case h_2 => cases h
 rename_i k i
 simp only [VRel] at hi; subst hi
 split at h
 ·rename_i len elem hu
  cases hs : tsz P elem with
  | none => simp [hs] at h
  | some n =>
   simp only [hs] at h
   split at h
   ·rename_i hb
    obtain ⟨b, o, rfl, hv⟩ := moveA_sound h hx
    refine ⟨_, ?_, hv⟩
    unfold Instr.indexAt
    rw [Sem.run_bind]
    simp only [asIntOf, Sem.run_pure, Result.andThen_ok]
    rw [Sem.run_bind, run_underlying hu]
    simp only [Result.andThen_ok, Instr.sureAddr]
    simp [hb.1, hb.2, run_tsz hs, run_underlying hu, add_addr]
   ·cases h
 ·rename_i elem hu
  cases hs : tsz P elem with
  | none => simp [hs] at h
  | some n =>
   simp only [hs] at h
   split at h
   ·rename_i len cells tail
    split at h
    ·rename_i hb
     cases h
     simp only [VRel] at hx
     obtain ⟨base, cap, rfl, hle, hc, _⟩ := hx
     rcases hc with rfl | ⟨b, o, rfl, hf, hr⟩
     ·simp at hb; omega
     ·refine ⟨.pointer (some ⟨b, o + i.toNat * n, none⟩), ?_, ?_⟩
      ·unfold Instr.indexAt
       rw [Sem.run_bind]
       simp only [asIntOf, Sem.run_pure, Result.andThen_ok]
       rw [Sem.run_bind, run_underlying hu]
       simp only [Result.andThen_ok]
       simp [hb.1, hb.2.1, run_tsz hs, run_underlying hu, add_addr]
      ·simp only [VRel]
       refine ⟨b, _, rfl, hf.mono (by simp; omega), ?_⟩
       exact VRow.take b n (VRow.drop b (i.toNat * n) hr)
    ·cases h
   ·rename_i id off len cap
    split at h
    ·rename_i hb
     cases h
     simp only [VRel] at hx
     obtain ⟨b, wm, hi, hn, rfl⟩ := hx
     refine ⟨.pointer (some ⟨b, off + i.toNat * n, none⟩), ?_, by simp only [VRel]; exact ⟨b, wm, hi, hn, rfl⟩⟩
     unfold Instr.indexAt
     rw [Sem.run_bind]
     simp only [asIntOf, Sem.run_pure, Result.andThen_ok]
     rw [Sem.run_bind, run_underlying hu]
     simp only [Result.andThen_ok]
     simp [hb.1, hb.2, run_tsz hs, run_underlying hu, add_addr]
    ·cases h
   ·rename_i id gen len sz
    split at h
    ·rename_i hb
     cases h
     simp only [VRel] at hx
     obtain ⟨base, cap, rfl, hle, hsr⟩ := hx
     rcases hsr with ⟨b, rfl, B, g, hB, hm, hgl, kk⟩ | ⟨_, e0, _⟩
     case inr => omega
     refine ⟨.pointer (some ⟨b, 0 + i.toNat * n, none⟩), ?_, ?_⟩
     ·unfold Instr.indexAt
      rw [Sem.run_bind]
      simp only [asIntOf, Sem.run_pure, Result.andThen_ok]
      rw [Sem.run_bind, run_underlying hu]
      simp only [Result.andThen_ok]
      simp [hb.1, hb.2, run_tsz hs, run_underlying hu, add_addr]
     ·simp only [VRel]
      refine ⟨b, 0 + i.toNat * n, rfl, B, g, hB, hm, hgl, fun h1 h2 => ?_⟩
      obtain ⟨b', wm, C, t, hi, hC, h3, _⟩ := kk h1 h2
      exact ⟨b', wm, C, t, hi, hC, h3, by omega⟩
    ·cases h
   ·cases h
 ·cases h
end Go.Vm

namespace Go.Vm
variable [Outer]
variable {P : Program}
def fillA (place : Nat → Option (Nat × Nat)) (cells : List AV) : List (Nat × AV) → Option (List AV)
 | [] => some cells
 | (i, v) :: rest =>
  match place i with
  | none => none
  | some (off, size) =>
   if v.cellsOf.length = size ∧ off + size ≤ cells.length then fillA place (splice cells off v.cellsOf) rest else none
def PRels (S : Sit) : List (Nat × AV) → List (Nat × Value) → Prop
 | [], [] => True
 | (i, a) :: as, (j, c) :: cs => i = j ∧ VRel S a c ∧ PRels S as cs
 | _, _ => False
omit [Outer] in
theorem foldl_splice (off : Nat) : ∀ (vs : List Value) (k : Nat) (C : Array Value), off + k + vs.length ≤ C.size →
  ((vs.zipIdx k).foldl (fun cs (c, j) => cs.setIfInBounds (off + j) c) C).toList = splice C.toList (off + k) vs
 | [], k, C, _ => by simp [splice_nil]
 | v :: vs, k, C, h => by
  simp only [List.length_cons] at h
  simp only [List.zipIdx_cons, List.foldl_cons]
  rw [foldl_splice off vs (k + 1) _ (by rw [Array.size_setIfInBounds]; omega), Array.toList_setIfInBounds, show off + (k + 1) = off + k + 1 by omega,
   splice_cons _ _ _ _ (by simp only [List.length_cons, Array.length_toList]; omega)]
theorem fillA_sound {S : Sit} {place : Nat → Option (Nat × Nat)} : ∀ {parts : List (Nat × AV)} {cparts : List (Nat × Value)} {cells out : List AV} {C : Array Value},
  fillA place cells parts = some out → VRels S cells C.toList → PRels S parts cparts →
  ∃ D : Array Value, Instr.fill place C cparts = some D ∧ VRels S out D.toList
 | [], [], cells, out, C, h, hc, _ => by simp only [fillA, Option.some.injEq] at h; subst h; exact ⟨C, rfl, hc⟩
 | [], _ :: _, _, _, _, _, _, hp => by simp [PRels] at hp
 | _ :: _, [], _, _, _, _, _, hp => by simp [PRels] at hp
 | (i, a) :: as, (j, c) :: cs, cells, out, C, h, hc, hp => by
  simp only [PRels] at hp
  obtain ⟨rfl, hv, hp⟩ := hp
  simp only [fillA] at h
  cases hpl : place i with
  | none => simp [hpl] at h
  | some q =>
   obtain ⟨off, size⟩ := q
   simp only [hpl] at h
   split at h
   ·rename_i hg
    have hvc := hv.cells
    have hl1 := hvc.length
    have hl2 := hc.length
    simp only [Array.length_toList] at hl1 hl2
    have hfold := foldl_splice off c.cells.toList 0 C (by simp; omega)
    have e : (c.cells.zipIdx.foldl (fun cs (c, j) => cs.setIfInBounds (off + j) c) C) = (c.cells.toList.zipIdx 0).foldl (fun cs (c, j) => cs.setIfInBounds (off + j) c) C := by
     rw [← Array.foldl_toList, Array.toList_zipIdx]
    obtain ⟨D, hD, hr⟩ := fillA_sound (C := (c.cells.toList.zipIdx 0).foldl (fun cs (c, j) => cs.setIfInBounds (off + j) c) C) h
     (by rw [hfold]; exact hc.splice off hvc) hp
    refine ⟨D, ?_, hr⟩
    simp only [Instr.fill, hpl]
    rw [if_neg (by simp; omega), e]
    exact hD
   ·cases h
def buildOp (P : Program) (t : TypeId) (parts : List (Nat × AV)) : Option AV :=
 match tz P t, P.underlying t with
 | some z, some (.struct fs) =>
  match fs.toList.mapM fun f => (tsz P f.type).map fun n => (f.offset, n) with
  | some places => (fillA (fun i => places[i]?) (z.cells.toList.map .lit) parts).map .agg
  | none => none
 | some z, some (.array _ elem) =>
  match tsz P elem with
  | some n => (fillA (fun i => some (i * n, n)) (z.cells.toList.map .lit) parts).map .agg
  | none => none
 | _, _ => none
omit [Outer] in
theorem run_mapM_places {w : World} : ∀ {fs : List Field} {places : List (Nat × Nat)}, (fs.mapM fun f => (tsz P f.type).map fun n => (f.offset, n)) = some places →
  (fs.mapM fun f => (do pure (f.offset, ← sizeOf f.type) : Sem (Nat × Nat))).run P w = .ok places w
 | [], places, h => by simp at h; subst h; rfl
 | f :: fs, places, h => by
  rw [List.mapM_cons] at h
  cases hs : tsz P f.type with
  | none => simp [hs] at h
  | some n =>
   cases hm : (fs.mapM fun f => (tsz P f.type).map fun n => (f.offset, n)) with
   | none => simp [hs, hm] at h
   | some ps =>
    have ih := run_mapM_places (w := w) hm
    simp [hs, hm] at h
    subst h
    rw [List.mapM_cons, Sem.run_bind, Sem.run_bind, run_tsz hs]
    simp only [Result.andThen_ok, Sem.run_pure]
    rw [Sem.run_bind, ih]
    rfl
theorem buildOp_sound {S : Sit} {t : TypeId} {parts : List (Nat × AV)} {cparts : Array (Nat × Value)} {v : AV} (h : buildOp P t parts = some v) (hp : PRels S parts cparts.toList) :
  ∃ c, (Instr.build t cparts).run P S.w = .ok c S.w ∧ VRel S v c := by
 unfold buildOp at h
 split at h
 ·rename_i z fs hz hu
  split at h
  ·rename_i places hpl
   cases hf : fillA (fun i => places[i]?) (z.cells.toList.map .lit) parts with
   | none => simp [hf] at h
   | some cells =>
    simp only [hf, Option.map_some, Option.some.injEq] at h
    subst h
    obtain ⟨D, hD, hr⟩ := fillA_sound hf (VRels.map_lit _) hp
    refine ⟨.agg D, ?_, by simp only [VRel]; exact ⟨D, rfl, hr⟩⟩
    unfold Instr.build
    rw [Sem.run_bind, run_tz hz]
    simp only [Result.andThen_ok]
    rw [Sem.run_bind, run_underlying hu]
    simp only [Result.andThen_ok]
    have hm : (fs.mapM fun f => (do pure (f.offset, ← sizeOf f.type) : Sem (Nat × Nat))).run P S.w = .ok places.toArray S.w := by
     have e := run_mapM_places (w := S.w) hpl
     rw [show fs.mapM (fun f => (do pure (f.offset, ← sizeOf f.type) : Sem (Nat × Nat))) = (fs.toList.mapM fun f => (do pure (f.offset, ← sizeOf f.type) : Sem (Nat × Nat))) >>= fun l => pure l.toArray from by
      rw [← Array.toArray_toList (xs := fs), List.mapM_toArray]; simp]
     rw [Sem.run_bind, e]
     rfl
    rw [Sem.run_bind, hm]
    simp only [Result.andThen_ok]
    have e2 : (fun x : Nat => places.toArray[x]?) = fun i : Nat => places[i]? := by funext i; simp
    rw [e2, hD]
    rfl
  ·cases h
 ·rename_i z k elem hz hu
  cases hs : tsz P elem with
  | none => simp [hs] at h
  | some n =>
   simp only [hs] at h
   cases hf : fillA (fun i => some (i * n, n)) (z.cells.toList.map .lit) parts with
   | none => simp [hf] at h
   | some cells =>
    simp only [hf, Option.map_some, Option.some.injEq] at h
    subst h
    obtain ⟨D, hD, hr⟩ := fillA_sound hf (VRels.map_lit _) hp
    refine ⟨.agg D, ?_, by simp only [VRel]; exact ⟨D, rfl, hr⟩⟩
    unfold Instr.build
    rw [Sem.run_bind, run_tz hz]
    simp only [Result.andThen_ok]
    rw [Sem.run_bind, run_underlying hu]
    simp only [Result.andThen_ok]
    rw [Sem.run_bind, run_tsz hs]
    simp only [Result.andThen_ok, hD]
    rfl
 ·cases h
def zeros (zero : List Value) : Nat → List Value
 | 0 => []
 | n + 1 => zero ++ zeros zero n
omit [Outer] in
theorem range_zeros (zero : Array Value) (n : Nat) (_hz : 0 < zero.size) : ((Array.range (n * zero.size)).map fun i => zero[i % zero.size]!).toList = zeros zero.toList n := by
 induction n with
 | zero => simp [zeros]
 | succ n ih =>
  have e : Array.range ((n + 1) * zero.size) = Array.range zero.size ++ (Array.range (n * zero.size)).map (zero.size + ·) := by
   rw [Nat.succ_mul, Nat.add_comm, Array.range_add]
  rw [e]
  simp only [Array.map_append, Array.toList_append, zeros]
  congr 1
  ·apply List.ext_getElem?
   intro i
   by_cases hi : i < zero.size
   ·simp [hi, Nat.mod_eq_of_lt hi]
   ·simp [hi]
  ·rw [← ih]
   simp [Array.map_map, Function.comp_def]
def buildSliceOp (P : Program) (t : TypeId) (len : Nat) (parts : List (Nat × AV)) : Option AV :=
 match tslice P t with
 | none => none
 | some e => match tsz P e, tz P e with
  | some size, some z =>
   if z.cells.size = size ∧ 0 < size ∧ len * size ≤ 16777216 then
    (fillA (fun i => some (i * size, size)) ((zeros z.cells.toList len).map .lit) parts).bind fun cells =>
     if cells.length = len * size then some (.sl len cells .full) else none
   else none
  | _, _ => none
theorem buildSliceOp_sound {S : Sit} (hR : Rel S) {t : TypeId} {len : Nat} {parts : List (Nat × AV)} {cparts : Array (Nat × Value)} {v : AV} (h : buildSliceOp P t len parts = some v)
  (hp : PRels S parts cparts.toList) :
  ∃ c w', (Instr.buildSlice t len cparts).run P S.w = .ok c w' ∧ Rel ⟨S.H, S.ι, w'⟩ ∧ Ev S ⟨S.H, S.ι, w'⟩ ∧ VRel ⟨S.H, S.ι, w'⟩ v c := by
 unfold buildSliceOp at h
 cases hsl : tslice P t with
 | none => simp [hsl] at h
 | some e =>
 cases hs : tsz P e with
 | none => simp [hsl, hs] at h
 | some size =>
 cases hz : tz P e with
 | none => simp [hsl, hs, hz] at h
 | some z =>
 simp only [hsl, hs, hz] at h
 split at h
 case isFalse => cases h
 case isTrue hg =>
 obtain ⟨hzs, hpos, hbig⟩ := hg
 cases hf : fillA (fun i => some (i * size, size)) ((zeros z.cells.toList len).map .lit) parts with
 | none => simp [hf] at h
 | some cells =>
 simp only [hf, Option.bind_some] at h
 split at h
 case isFalse => cases h
 case isTrue hcl =>
 cases h
 have hzer : VRels S ((zeros z.cells.toList len).map .lit) (((Array.range (len * size)).map fun i => z.cells[i % z.cells.size]!).toList) := by
  have := range_zeros z.cells len (by omega)
  rw [← hzs, this]
  exact VRels.map_lit _
 obtain ⟨D, hD, hr⟩ := fillA_sound hf hzer hp
 obtain ⟨w', hrun, hw, _, hR', hev, hfix, hrow⟩ := new_row (P := P) hR e hr []
 have hDs := hr.toArray
 simp only [List.append_nil] at hR' hev hfix hrow
 refine ⟨.slice (some ⟨S.w.heap.size, 0, none⟩) len len, w', ?_, hR', hev, ?_⟩
 ·unfold Instr.buildSlice
  rw [Sem.run_bind, run_underlying (tslice_eq hsl)]
  simp only [Result.andThen_ok]
  rw [Sem.run_bind, run_tsz hs]
  simp only [Result.andThen_ok]
  have h24 : (2 : Nat) ^ 24 = 16777216 := by simp
  have hnb : ¬ (len * size > 2 ^ 24) := by rw [h24]; omega
  rw [if_neg hnb]
  by_cases hl0 : len * size = 0
  ·rw [if_pos hl0]
   rw [Sem.run_bind]
   simp only [Sem.run_pure, Result.andThen_ok]
   have e0 : ((Array.range (len * size)).map fun i => (#[] : Array Value)[i % (#[] : Array Value).size]!) = ((Array.range (len * size)).map fun i => z.cells[i % z.cells.size]!) := by rw [hl0]; simp
   rw [e0, hD]
   rw [Sem.run_bind, hrun]
   rfl
  ·rw [if_neg hl0]
   rw [Sem.run_bind, run_tz hz]
   simp only [Result.andThen_ok]
   rw [Sem.run_bind]
   simp only [Sem.run_pure, Result.andThen_ok]
   rw [hD]
   rw [Sem.run_bind, hrun]
   rfl
 ·simp only [VRel]
  refine ⟨_, len, rfl, Nat.le_refl _, .inr ⟨_, 0, rfl, hfix _ (by omega), hrow⟩, rfl⟩
end Go.Vm
