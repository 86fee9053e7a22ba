/-
  Texts of the proof, part 13: the machine, contracts of functions, plain laws. (Own work.)
-/
import Derived.Test.YteefbiehcfmoeaaGreatDoorG12DalangParses
import Derived.Maps.RangeRun
import Derived.KernelRfl
import Derived.Test.YteefbiehcfmoeaaGreatDoorG09DalangParses

namespace Go.Vm
open Go.Proofs Go.ChangeMaps
noncomputable def dropK {α : Type} (t : Trie α) : Nat → Trie α :=
 Trie.rec (fun _ => .nil)
  (fun v l r gl gr k => Nat.rec (.node none l r) (fun k' _ => bif Nat.beq (Nat.land k' 1) 0 then .node v (gl (Nat.shiftRight k' 1)) r else .node v l (gr (Nat.shiftRight k' 1))) k) t
theorem get_dropK {α : Type} : ∀ (l : Trie α) (k j : Nat), get (dropK l k) j = if k = j then none else get l j
 | .nil, k, j => by
  show get .nil j = _
  rw [get_nil]; simp
 | .node v l r, 0, j => by
  show get (.node none l r) j = _
  cases j with
  | zero => rfl
  | succ j => rw [get_node_succ, get_node_succ]; simp
 | .node v l r, k + 1, j => by
  have e1 : Nat.land k 1 = k % 2 := Nat.and_one_is_mod k
  have e2 : Nat.shiftRight k 1 = k / 2 := rfl
  have e : dropK (.node v l r) (k + 1) = if k % 2 = 0 then .node v (dropK l (k / 2)) r else .node v l (dropK r (k / 2)) := by
   show (bif Nat.beq (Nat.land k 1) 0 then Trie.node v (dropK l (Nat.shiftRight k 1)) r else .node v l (dropK r (Nat.shiftRight k 1))) = _
   rw [e1, e2]
   by_cases h : k % 2 = 0
   ·simp [h]
   ·rw [if_neg h]; cases hb : Nat.beq (k % 2) 0 with
    | true => exact absurd (Nat.eq_of_beq_eq_true hb) h
    | false => rfl
  rw [e]
  cases j with
  | zero => split <;> rw [get_node_zero, get_node_zero] <;> simp
  | succ j =>
   rw [get_node_succ]
   by_cases h1 : k % 2 = 0
   ·rw [if_pos h1, get_node_succ]
    by_cases h2 : j % 2 = 0
    ·rw [if_pos h2, if_pos h2, get_dropK l]
     by_cases h3 : k / 2 = j / 2
     ·have : k = j := by omega
      simp [this]
     ·have : k + 1 ≠ j + 1 := by omega
      rw [if_neg h3, if_neg this]
    ·have : k + 1 ≠ j + 1 := by omega
     rw [if_neg h2, if_neg h2, if_neg this]
   ·rw [if_neg h1, get_node_succ]
    by_cases h2 : j % 2 = 0
    ·have : k + 1 ≠ j + 1 := by omega
     rw [if_pos h2, if_pos h2, if_neg this]
    ·rw [if_neg h2, if_neg h2, get_dropK r]
     by_cases h3 : k / 2 = j / 2
     ·have : k = j := by omega
      simp [this]
     ·have : k + 1 ≠ j + 1 := by omega
      rw [if_neg h3, if_neg this]
noncomputable def dropAll {α : Type} (t : Trie α) (l : List Nat) : Trie α := List.rec t (fun k _ ih => dropK ih k) l
theorem get_dropAll {α : Type} (t : Trie α) : ∀ (l : List Nat) (j : Nat), get (dropAll t l) j = if j ∈ l then none else get t j
 | [], j => by simp [dropAll]
 | k :: l, j => by
  show get (dropK (dropAll t l) k) j = _
  rw [get_dropK, get_dropAll t l j]
  by_cases h : k = j
  ·subst h; simp
  ·rw [if_neg h]
   have : (j ∈ k :: l) = (j ∈ l) := by simp; intro h'; exact absurd h'.symm h
   simp [this]
theorem SRel.fewer [Outer] {σ : St} {ι : Nat → Option (Nat × Nat)} {a : Act} {w : World} (h : SRel σ ι a w) {vars0 : Trie AV} (hv : ∀ t v, get vars0 t = some v → get σ.vars t = some v) : SRel { σ with vars := vars0 } ι a w :=
 ⟨h.rel, h.size, fun t v hg => h.vars t v (hv t v hg), h.defs⟩
theorem Rel.back [Outer] {S S' : Sit} (hR : Rel S) (hR' : Rel S') (hev : Ev S S') (hnon : Non S S')
  (hchg : ∀ id, id < S.H.length → S'.H[id]? = S.H[id]? ∨ ∃ B, S'.H[id]? = some B ∧ B.under S.H.length) : Rel ⟨S'.H.take S.H.length, cutι S'.ι S.H.length, S'.w⟩ := by
 have hb : ∀ id b wm, S'.ι id = some (b, wm) → id < S.H.length → ∀ B, S'.H[id]? = some B → B.under S.H.length := by
  intro id b wm hi hlt B hB
  rcases hchg id hlt with hs | ⟨B', hB', hu⟩
  ·rw [hs] at hB
   by_cases hx : ∃ p, S.ι id = some p
   ·obtain ⟨⟨b0, wm0⟩, hx⟩ := hx
    obtain ⟨B', hB', hrel⟩ := hR.blk id b0 wm0 hx
    rw [hB] at hB'; cases hB'
    exact hrel.under
   ·have hnone : S.ι id = none := by cases hι : S.ι id with
     | none => rfl
     | some p => exact absurd ⟨p, hι⟩ hx
    cases B with
    | row g => trivial
    | mrow g c =>
     obtain ⟨B', g1, hB', hm, hle, k⟩ := hev.mtok id g c hB
     rw [hs, hB] at hB'; cases hB'
     simp only [Blk.mgen, Option.some.injEq] at hm; subst hm
     have e2 := (k rfl).2.1
     rw [hnone, hi] at e2; cases e2
    | _ =>
     have e2 := hnon id ⟨_, hB, rfl⟩ hnone
     rw [hi] at e2; cases e2
  ·rw [hB'] at hB; cases hB; exact hu
 refine ⟨fun id b wm e => ?_, fun i j b wm wm' ei ej => ?_, fun b x e => ?_, hR'.tab⟩
 ·have e' : cutι S'.ι S.H.length id = some (b, wm) := e
  unfold cutι at e'
  split at e'
  ·rename_i hlt
   obtain ⟨B, hB, hrel⟩ := hR'.blk id b wm e'
   exact ⟨B, by show (S'.H.take S.H.length)[id]? = _; rw [List.getElem?_take_of_lt hlt]; exact hB, BlkRel.cut hrel (hb id b wm e' hlt B hB)⟩
  ·cases e'
 ·have ei' : cutι S'.ι S.H.length i = some (b, wm) := ei
  have ej' : cutι S'.ι S.H.length j = some (b, wm') := ej
  unfold cutι at ei' ej'
  split at ei' <;> split at ej' <;> first | exact hR'.inj i j b wm wm' ei' ej' | (cases ei') | (cases ej')
 ·obtain ⟨h1, h2⟩ := hR'.out b x e
  refine ⟨h1, fun i wm h => ?_⟩
  have h' : cutι S'.ι S.H.length i = some (b, wm) := h
  unfold cutι at h'
  split at h'
  ·exact h2 _ _ h'
  ·cases h'
theorem SRel.back [Outer] {k : Nat} {vars0 vars1 : Trie AV} {H H1 : List Blk} {defs : List Nat} {ι ι1 : Nat → Option (Nat × Nat)} {a a1 : Act} {w w1 : World}
  (h0 : SRel ⟨k, vars0, H, defs⟩ ι a w) (h1 : SRel ⟨k, vars1, H1, defs⟩ ι1 a1 w1) (hev : Ev ⟨H, ι, w⟩ ⟨H1, ι1, w1⟩) (hnon : Non ⟨H, ι, w⟩ ⟨H1, ι1, w1⟩)
  (hv : ∀ t v, get vars0 t = some v → get vars1 t = some v) (hchg : ∀ id, id < H.length → H1[id]? = H[id]? ∨ ∃ B, H1[id]? = some B ∧ B.under H.length) :
  SRel ⟨k, vars0, H1.take H.length, defs⟩ (cutι ι1 H.length) a1 w1 := by
 refine ⟨Rel.back h0.rel h1.rel hev hnon hchg, h1.size, fun t v hg => ?_, DefRel.back h0.defs h1.rel h1.defs⟩
 obtain ⟨c, hc, hr⟩ := h1.vars t v (hv t v hg)
 obtain ⟨c0, _, hr0⟩ := h0.vars t v hg
 exact ⟨c, hc, VRel.cut (S := ⟨H1, ι1, w1⟩) v c (VRel.under _ _ hr0) hr⟩
theorem wpOp_exec {P : Program} {cro : Option Nat} {ops : Array Oper} {i : Nat} {o : Oper} {a : Act} {w w' : World} {c : Value} {Q : Exit → Act → World → Prop} {K : Act → World → Prop} (ho : ops[i]? = some o) (hg : o.guard = none)
  (hnd : ∀ c, o.op ≠ .defer c) (hx : (execOp a.eval o).run P w = .ok (.value c) w') (hK : K (a.put o.dst c) w') : wpOpIn (Fr cro) 0 P ops Q i K a w := by
 unfold wpOpIn
 simp only [ho]
 have hw : ∀ y, Region.wanted o y = true := fun y => by unfold Region.wanted; rw [hg]
 rw [hw]
 simp only [if_true]
 refine ⟨fun _ _ => Fr_fn _ _, ?_⟩
 rw [Oper.semAt_eq _ _ _ hnd, hx]
 exact hK
end Go.Vm

namespace Go.Vm
open Go.Proofs Go.ChangeMaps
def OpIs (ops : Array Oper) (i : Nat) (dst : Option Tmp) (op : Op) : Prop := ∃ ty pos after, ops[i]? = some ⟨dst, op, ty, pos, after, none⟩
theorem opIs_of {ops : Array Oper} {i : Nat} {dst : Option Tmp} {op : Op} (h : (ops[i]?).map (fun o => (o.dst, o.op, o.guard)) = some (dst, op, none)) : OpIs ops i dst op := by
 obtain ⟨⟨d, o, ty, pos, after, g⟩, ho, he⟩ := map_some h
 cases he
 exact ⟨ty, pos, after, ho⟩
theorem putA_some {σ : St} {d : Nat} {v : AV} {H' : List Blk} (h : d < σ.n) : putA σ (some d) v H' = some ⟨σ.n, set σ.vars d v, H', σ.defs⟩ := by
 simp [putA, h]
theorem putA_none {σ : St} {v : AV} {H' : List Blk} : putA σ none v H' = some ⟨σ.n, σ.vars, H', σ.defs⟩ := rfl
section
variable {P : Program}
theorem astep {ops : Array Oper} {i d n : Nat} {op : Op} {V : Trie AV} {H H' : List Blk} {ds : List Nat} {v : AV} (ho : OpIs ops i (some d) op)
  (ha : ∀ ty pos after, aop P false H (St.eval ⟨n, V, H, ds⟩) ⟨some d, op, ty, pos, after, none⟩ = some (.val v H')) (hk : keepsD H H') (hd : d < n) : AStep P ops i ⟨n, V, H, ds⟩ ⟨n, set V d v, H', ds⟩ := by
 obtain ⟨ty, pos, after, ho⟩ := ho
 exact .val ho rfl (ha ty pos after) hk (putA_some (σ := ⟨n, V, H, ds⟩) hd)
theorem astep_none {ops : Array Oper} {i n : Nat} {op : Op} {V : Trie AV} {H H' : List Blk} {ds : List Nat} {v : AV} (ho : OpIs ops i none op)
  (ha : ∀ ty pos after, aop P false H (St.eval ⟨n, V, H, ds⟩) ⟨none, op, ty, pos, after, none⟩ = some (.val v H')) (hk : keepsD H H') : AStep P ops i ⟨n, V, H, ds⟩ ⟨n, V, H', ds⟩ := by
 obtain ⟨ty, pos, after, ho⟩ := ho
 exact .val ho rfl (ha ty pos after) hk (putA_none (σ := ⟨n, V, H, ds⟩))
theorem keepsD_refl (H : List Blk) : keepsD H H := fun _ h => h
theorem keepsD_put {H : List Blk} {id : Nat} {B0 B : Blk} (h : H[id]? = some B0) (hd : B0 ≠ .defd) : keepsD H (H.set id B) := (Keep.set (B := B) h hd).marks
end
theorem concs_lit : ∀ l : List Value, concs (l.map .lit) = some l
 | [] => rfl
 | v :: l => by simp [concs, concs_lit l]
theorem conc_agg (C : Array Value) : conc (.agg (C.toList.map .lit)) = some (.agg C) := by
 simp [conc, concs_lit]
theorem ty_z130 : tz Tryz.prog 256 = some (.agg #[.int .i64 0, .int .i64 0, .int .i64 0, .int .i64 0, .int .i64 0]) := by kernel_rfl
theorem ty_s130 : tsz Tryz.prog 256 = some 5 := by kernel_rfl
theorem ty_a130 : tagg Tryz.prog 256 = some true := by kernel_rfl
theorem ty_a143 : tagg Tryz.prog 260 = some false := by kernel_rfl
theorem ty_f145 : fieldOp Tryz.prog 262 (.ptr 0 0) 2 = some (.ptr 0 4) := by kernel_rfl
theorem ty_m143 : tmap Tryz.prog 260 = some (.arr 5, 256, 3) := by kernel_rfl
theorem ty_u143 : Tryz.prog.underlying 260 = some (.map 256 3) := by kernel_rfl
theorem fieldOp_145 (id : Nat) : fieldOp Tryz.prog 262 (.ptr id 0) 2 = some (.ptr id 4) := by
 have h := ty_f145
 unfold fieldOp at h ⊢
 cases hf : tfield Tryz.prog 262 2 with
 | none => rw [hf] at h; cases h
 | some f =>
  rw [hf] at h
  simp only at h ⊢
  split at h
  ·simp only [moveA, Option.some.injEq, AV.ptr.injEq, true_and] at h ⊢
   omega
  ·cases h
structure CopyOps (o22 o23 o24 o25 : Array Oper) : Prop where
 s22 : o22.size = 2
 s23 : o23.size = 2
 s24 : o24.size = 6
 s25 : o25.size = 5
 a0 : OpIs o22 0 (some 61) (.move (.tmp 8))
 a1 : OpIs o22 1 (some 62) (.range 260 (.tmp 61))
 b0 : OpIs o23 0 (some 63) (.next (.tmp 62) false)
 b1 : OpIs o23 1 (some 64) (.extract (.tmp 63) 0)
 c0 : OpIs o24 0 (some 65) (.entry (.tmp 62))
 c1 : OpIs o24 1 (some 66) (.extract (.tmp 65) 0)
 c2 : OpIs o24 2 (some 67) (.extract (.tmp 65) 1)
 c3 : OpIs o24 3 (some 15) (.alloc 256)
 c4 : OpIs o24 4 none (.store 256 (.tmp 15) (.tmp 66))
 c5 : OpIs o24 5 (some 16) (.assign (.tmp 67))
 d0 : OpIs o25 0 (some 68) (.fieldAddr 262 (.tmp 2) 2)
 d1 : OpIs o25 1 (some 69) (.load 260 (.tmp 68))
 d2 : OpIs o25 2 (some 70) (.load 256 (.tmp 15))
 d3 : OpIs o25 3 (some 71) (.move (.tmp 16))
 d4 : OpIs o25 4 none (.mapUpdate 260 (.tmp 69) (.tmp 70) (.tmp 71))
def copyCode (o22 o23 o24 o25 : Array Oper) : Code :=
 .seq (.region 22 o22 false) (.block 6 (.loop (.seq (.region 23 o23 false) (.seq (.cond (.tmp 64) .skip (.exit 6)) (.block 7 (.seq (.region 24 o24 false) (.region 25 o25 false)))))))
def copySlots : List Nat := [15, 16, 61, 62, 63, 64, 65, 66, 67, 68, 69, 70, 71]
def roundSlots : List Nat := [15, 16, 66, 67, 68, 69, 70, 71]
section
variable {o22 o23 o24 o25 : Array Oper} (hO : CopyOps o22 o23 o24 o25)
include hO
theorem copy_round {V : Trie AV} {H : List Blk} {ds : List Nat} {C : Array Value} {av : AV} {gb id2 : Nat} {gcells : List AV} {gt : TypeId} {m2 : List (Value × AV)} (hC : shOk (.arr 5) (.agg C) = true)
  (h65 : get V 65 = some (.tup [.lit (.agg C), av])) (h2 : get V 2 = some (.ptr gb 0)) (hg : H[gb]? = some (.box gcells gt)) (hgc : (gcells.drop 4).head? = some (.mp id2)) (hm : H[id2]? = some (.map (.arr 5) m2)) :
  ∃ V2 V3 cells, APath Tryz.prog o24 [1, 2, 3, 4, 5] ⟨72, V, H, ds⟩ ⟨72, V2, H ++ [.box cells 256], ds⟩ ∧
   APath Tryz.prog o25 [0, 1, 2, 3, 4] ⟨72, V2, H ++ [Blk.box cells 256], ds⟩ ⟨72, V3, (H ++ [Blk.box cells 256]).set id2 (.map (.arr 5) (mset m2 (.agg C) av)), ds⟩ ∧
   ∀ t, t ∉ roundSlots → get V3 t = get V t := by
 have hlg := (List.getElem?_eq_some_iff.1 hg).1
 have hlm := (List.getElem?_eq_some_iff.1 hm).1
 have hC' : C.toList.length = 5 ∧ C.toList.all isI64 = true := by
  simp only [shOk, Bool.and_eq_true, beq_iff_eq] at hC
  exact hC
 have hone : (C.toList.map AV.lit).all AV.one = true := by
  rw [List.all_map, List.all_eq_true]
  intro x hx
  obtain ⟨n, rfl, _⟩ := isI64_eq (List.all_eq_true.1 hC'.2 x hx)
  rfl
 let z : List AV := [.lit (.int .i64 0), .lit (.int .i64 0), .lit (.int .i64 0), .lit (.int .i64 0), .lit (.int .i64 0)]
 let B : List AV := C.toList.map .lit
 have hspl : splice z 0 B = B := by
  unfold splice
  simp only [List.take_zero, List.nil_append, Nat.zero_add]
  have : z.drop B.length = [] := by simp [z, B, hC'.1]
  rw [this]; simp
 have hset : (H ++ [Blk.box z 256]).set H.length (Blk.box B 256) = H ++ [Blk.box B 256] := by
  rw [List.set_append_right _ _ (Nat.le_refl _)]; simp
 have hgB : (H ++ [Blk.box B 256])[gb]? = some (Blk.box gcells gt) := by rw [List.getElem?_append_left hlg]; exact hg
 have hmB : (H ++ [Blk.box B 256])[id2]? = some (Blk.map (.arr 5) m2) := by rw [List.getElem?_append_left hlm]; exact hm
 refine ⟨set (set (set (set V 66 (.lit (.agg C))) 67 av) 15 (.ptr H.length 0)) 16 av,
  set (set (set (set (set (set (set (set V 66 (.lit (.agg C))) 67 av) 15 (.ptr H.length 0)) 16 av) 68 (.ptr gb 4)) 69 (.mp id2)) 70 (.agg B)) 71 av, B, ?_, ?_, ?_⟩
 ·refine .cons (astep (v := .lit (.agg C)) hO.c1 (fun ty pos after => ?_) (keepsD_refl _) (by decide)) (.cons (astep (v := av) hO.c2 (fun ty pos after => ?_) (keepsD_refl _) (by decide)) (.cons (astep (v := .ptr H.length 0) (H' := H ++ [Blk.box z 256]) hO.c3 (fun ty pos after => ?_) (keepsD_append _ _) (by decide))
   (.cons (astep_none (v := .lit undef) (H' := H ++ [Blk.box B 256]) hO.c4 (fun ty pos after => ?_) ?_) (.cons (astep (v := av) hO.c5 (fun ty pos after => ?_) (keepsD_refl _) (by decide)) ?_))))
  ·simp [aop, St.eval, h65]
  ·simp [aop, St.eval, get_set_other, h65]
  ·simp only [aop, ty_z130, Option.map_some]; rfl
  ·have e1 : (H ++ [Blk.box z 256])[H.length]? = some (.box z 256) := by simp
   have : storeOp Tryz.prog (H ++ [Blk.box z 256]) 256 (.ptr H.length 0) (.lit (.agg C)) = some (H ++ [.box B 256]) := by
    have hcond : (AV.lit (Value.agg C)).cellsOf.length = 5 ∧ 0 + 5 ≤ z.length ∧ (AV.lit (Value.agg C)).cellsOf.all AV.one = true := ⟨by simpa [AV.cellsOf] using hC'.1, by simp [z], hone⟩
    simp only [storeOp, e1, ty_s130]
    rw [if_pos hcond]
    show some ((H ++ [Blk.box z 256]).set H.length (.box (splice z 0 B) 256)) = _
    rw [hspl, hset]
   simp only [aop, St.eval, get_set_same]
   rw [get_set_other _ _ _ _ (by decide), get_set_other _ _ _ _ (by decide), get_set_same]
   simp only [this]
   rfl
  ·show keepsD (H ++ [Blk.box z 256]) (H ++ [.box B 256])
   rw [← hset]
   exact keepsD_put (B0 := .box z 256) (by simp) (by simp)
  ·simp only [aop, St.eval]
   rw [get_set_other _ _ _ _ (by decide), get_set_same]
   rfl
  ·exact .nil
 ·refine .cons (astep (v := .ptr gb 4) hO.d0 (fun ty pos after => ?_) (keepsD_refl _) (by decide)) (.cons (astep (v := .mp id2) hO.d1 (fun ty pos after => ?_) (keepsD_refl _) (by decide)) (.cons (astep (v := .agg B) hO.d2 (fun ty pos after => ?_) (keepsD_refl _) (by decide))
   (.cons (astep (v := av) hO.d3 (fun ty pos after => ?_) (keepsD_refl _) (by decide)) (.cons (astep_none (v := .lit undef) hO.d4 (fun ty pos after => ?_) (keepsD_put hmB (by simp))) .nil))))
  ·simp only [aop, St.eval]
   rw [get_set_other _ _ _ _ (by decide), get_set_other _ _ _ _ (by decide), get_set_other _ _ _ _ (by decide), get_set_other _ _ _ _ (by decide), h2]
   simp only [Option.bind_some, fieldOp_145, Option.map_some]
  ·simp only [aop, St.eval, get_set_same, Option.bind_some]
   have : loadOp Tryz.prog (H ++ [Blk.box B 256]) 260 (.ptr gb 4) = some (.mp id2) := by
    simp only [loadOp, cellsAt, hgB, Option.bind_some, loadA, ty_a143]
    exact hgc
   rw [this]; rfl
  ·simp only [aop, St.eval]
   rw [get_set_other _ _ _ _ (by decide), get_set_other _ _ _ _ (by decide), get_set_other _ _ _ _ (by decide), get_set_same]
   have e1 : (H ++ [Blk.box B 256])[H.length]? = some (.box B 256) := by simp
   have : loadOp Tryz.prog (H ++ [Blk.box B 256]) 256 (.ptr H.length 0) = some (.agg B) := by
    simp only [loadOp, cellsAt, e1, Option.bind_some, loadA, ty_a130, ty_s130, List.drop_zero]
    have hB : B.length = 5 := by simp [B, hC'.1]
    rw [if_pos (by omega), List.take_of_length_le (by omega)]
   simp only [Option.bind_some, this]; rfl
  ·simp only [aop, St.eval]
   rw [get_set_other _ _ _ _ (by decide), get_set_other _ _ _ _ (by decide), get_set_other _ _ _ _ (by decide), get_set_same]
   rfl
  ·simp only [aop, St.eval, get_set_same]
   rw [get_set_other _ _ _ _ (by decide), get_set_other _ _ _ _ (by decide), get_set_same, get_set_other _ _ _ _ (by decide), get_set_same]
   have : updateOp Tryz.prog (H ++ [Blk.box B 256]) 260 (.mp id2) (.agg B) av = some ((H ++ [Blk.box B 256]).set id2 (.map (.arr 5) (mset m2 (.agg C) av))) := by
    simp only [updateOp, ty_m143, hmB, B, conc_agg]
    rw [if_pos ⟨by simp [KeyShape.same], hC⟩]
   simp only [this]; rfl
 ·intro t ht
  simp only [roundSlots, List.mem_cons, List.not_mem_nil, or_false, not_or] at ht
  rw [get_set_other _ _ _ _ (by omega), get_set_other _ _ _ _ (by omega), get_set_other _ _ _ _ (by omega), get_set_other _ _ _ _ (by omega), get_set_other _ _ _ _ (by omega), get_set_other _ _ _ _ (by omega), get_set_other _ _ _ _ (by omega), get_set_other _ _ _ _ (by omega)]
end
end Go.Vm

namespace Go.Vm
open Go.Proofs Go.ChangeMaps
theorem APath.to [Outer] {P : Program} {ops : Array Oper} {cro : Option Nat} {Q : Exit → Act → World → Prop} : ∀ {l : List Nat} {σ σ' : St}, APath P ops l σ σ' → ∀ {ι : Nat → Option (Nat × Nat)} {a : Act} {w : World}, SRel σ ι a w →
  (∀ ι' a' w', SRel σ' ι' a' w' → Ev ⟨σ.H, ι, w⟩ ⟨σ'.H, ι', w'⟩ → Non ⟨σ.H, ι, w⟩ ⟨σ'.H, ι', w'⟩ → Q .normal a' w') → wpOpsIn (Fr cro) 0 P ops Q l a w
 | _, _, _, .nil, ι, _, _, hs, hK => by
  simp only [wpOpsIn]
  exact hK ι _ _ hs (Ev.refl _) (Non.refl _)
 | _, _, _, .cons h t, ι, a, w, hs, hK => by
  rw [wpOpsIn_cons]
  exact h.sound hs fun ι1 a1 w1 hs1 hev1 hnon1 => APath.to t hs1 fun ι2 a2 w2 hs2 hev2 hnon2 => hK ι2 a2 w2 hs2 (hev1.trans hev2) (hnon1.trans hev1 hnon2)
def copyTo (m2 es : List (Value × AV)) : List (Value × AV) := es.foldl (fun m p => mset m p.1 p.2) m2
theorem copyTo_snoc (m2 d : List (Value × AV)) (p : Value × AV) : copyTo m2 (d ++ [p]) = mset (copyTo m2 d) p.1 p.2 := by
 simp [copyTo, List.foldl_append]
theorem mset_snd {m : List (Value × AV)} {k : Value} {v : AV} {q : Value × AV} (h : q ∈ mset m k v) : q.2 = v ∨ q ∈ m := by
 induction m with
 | nil => simp [mset] at h; left; rw [h]
 | cons p m ih =>
  unfold mset at h
  split at h
  ·rcases List.mem_cons.1 h with h | h
   ·left; rw [h]
   ·right; simp [h]
  ·rcases List.mem_cons.1 h with h | h
   ·right; simp [h]
   ·rcases ih h with h | h
    ·exact .inl h
    ·right; simp [h]
theorem copyTo_snd : ∀ {es m2 : List (Value × AV)} {q : Value × AV}, q ∈ copyTo m2 es → (∃ p ∈ es, q.2 = p.2) ∨ q ∈ m2
 | [], m2, q, h => .inr h
 | p :: es, m2, q, h => by
  rcases copyTo_snd (es := es) (m2 := mset m2 p.1 p.2) h with ⟨p', hp, he⟩ | h
  ·exact .inl ⟨p', by simp [hp], he⟩
  ·rcases mset_snd h with h | h
   ·exact .inl ⟨p, by simp, h⟩
   ·exact .inr h
def KeysOk (m : List (Value × AV)) : Prop := ∀ p ∈ m, shOk (.arr 5) p.1 = true
theorem mset_keysOk {m : List (Value × AV)} {k : Value} {v : AV} (hm : KeysOk m) (hk : shOk (.arr 5) k = true) : KeysOk (mset m k v) := by
 intro q hq
 induction m with
 | nil => simp [mset] at hq; rw [hq]; exact hk
 | cons p m ih =>
  unfold mset at hq
  split at hq
  ·rcases List.mem_cons.1 hq with h | h
   ·rw [h]; exact hm p (by simp)
   ·exact hm q (by simp [h])
  ·rcases List.mem_cons.1 hq with h | h
   ·rw [h]; exact hm p (by simp)
   ·exact ih (fun p hp => hm p (by simp [hp])) h
theorem copyTo_keys : ∀ {es m2 : List (Value × AV)}, KeysOk m2 → KeysOk es → KeysOk (copyTo m2 es)
 | [], _, h, _ => h
 | p :: es, m2, h, he => copyTo_keys (es := es) (mset_keysOk h (he p (by simp))) fun q hq => he q (by simp [hq])
theorem mset_fst_mem {m : List (Value × AV)} {k : Value} {v : AV} (hm : KeysOk m) (hk : shOk (.arr 5) k = true) : k ∈ m.map (·.1) → (mset m k v).map (·.1) = m.map (·.1) := by
 intro h
 induction m with
 | nil => simp at h
 | cons p m ih =>
  unfold mset
  by_cases hv : veq p.1 k = true
  ·rw [if_pos hv]; rfl
  ·rw [if_neg hv]
   have hne : p.1 ≠ k := fun e => hv ((veq_eq (hm p (by simp)) hk).2 e)
   simp only [List.map_cons, List.cons.injEq, true_and]
   refine ih (fun q hq => hm q (by simp [hq])) ?_
   simp only [List.map_cons, List.mem_cons] at h
   rcases h with h | h
   ·exact absurd h.symm hne
   ·exact h
theorem mset_not_mem {m : List (Value × AV)} {k : Value} {v : AV} (hm : KeysOk m) (hk : shOk (.arr 5) k = true) : k ∉ m.map (·.1) → mset m k v = m ++ [(k, v)] := by
 intro h
 induction m with
 | nil => rfl
 | cons p m ih =>
  unfold mset
  have hne : p.1 ≠ k := fun e => h (by simp [e])
  rw [if_neg (fun hv => hne ((veq_eq (hm p (by simp)) hk).1 hv)), ih (fun q hq => hm q (by simp [hq])) (fun hmem => h (by simp only [List.map_cons, List.mem_cons]; exact .inr hmem))]
  rfl
theorem mset_nodup {m : List (Value × AV)} {k : Value} {v : AV} (hm : KeysOk m) (hk : shOk (.arr 5) k = true) (hn : (m.map (·.1)).Nodup) : ((mset m k v).map (·.1)).Nodup := by
 by_cases h : k ∈ m.map (·.1)
 ·rw [mset_fst_mem hm hk h]; exact hn
 ·rw [mset_not_mem hm hk h]
  simp only [List.map_append, List.map_cons, List.map_nil]
  rw [List.nodup_append]
  refine ⟨hn, by simp, fun a ha b hb => ?_⟩
  simp only [List.mem_singleton] at hb
  subst hb
  rintro rfl
  exact h ha
theorem copyTo_nodup : ∀ {es m2 : List (Value × AV)}, KeysOk m2 → KeysOk es → (m2.map (·.1)).Nodup → ((copyTo m2 es).map (·.1)).Nodup
 | [], _, _, _, h => h
 | p :: es, m2, hm, he, h => copyTo_nodup (es := es) (mset_keysOk hm (he p (by simp))) (fun q hq => he q (by simp [hq])) (mset_nodup hm (he p (by simp)) h)
theorem mem_mset {m : List (Value × AV)} {k : Value} {v : AV} (hm : KeysOk m) (hk : shOk (.arr 5) k = true) (hn : (m.map (·.1)).Nodup) (q : Value × AV) : q ∈ mset m k v ↔ q = (k, v) ∨ (q ∈ m ∧ q.1 ≠ k) := by
 induction m with
 | nil => simp [mset]
 | cons p m ih =>
  simp only [List.map_cons, List.nodup_cons] at hn
  have ih := ih (fun q hq => hm q (by simp [hq])) hn.2
  unfold mset
  by_cases hv : veq p.1 k = true
  ·have he := (veq_eq (hm p (by simp)) hk).1 hv
   rw [if_pos hv]
   constructor
   ·intro h
    rcases List.mem_cons.1 h with h | h
    ·left; rw [h, he]
    ·right
     refine ⟨by simp [h], fun e => hn.1 ?_⟩
     rw [he, ← e]; exact List.mem_map_of_mem h
   ·rintro (h | ⟨h, hne⟩)
    ·rw [h, ← he]; simp
    ·rcases List.mem_cons.1 h with h | h
     ·rw [h] at hne; exact absurd he hne
     ·simp [h]
  ·rw [if_neg hv]
   have hne : p.1 ≠ k := fun e => hv ((veq_eq (hm p (by simp)) hk).2 e)
   constructor
   ·intro h
    rcases List.mem_cons.1 h with h | h
    ·right; rw [h]; exact ⟨by simp, hne⟩
    ·rcases ih.1 h with h | ⟨h, h'⟩
     ·exact .inl h
     ·exact .inr ⟨by simp [h], h'⟩
   ·rintro (h | ⟨h, hne'⟩)
    ·exact List.mem_cons_of_mem _ (ih.2 (.inl h))
    ·rcases List.mem_cons.1 h with h | h
     ·simp [h]
     ·exact List.mem_cons_of_mem _ (ih.2 (.inr ⟨h, hne'⟩))
theorem mem_copyTo : ∀ {es m2 : List (Value × AV)}, KeysOk m2 → KeysOk es → (m2.map (·.1)).Nodup → (es.map (·.1)).Nodup → ∀ q, q ∈ copyTo m2 es ↔ q ∈ es ∨ (q ∈ m2 ∧ q.1 ∉ es.map (·.1))
 | [], m2, _, _, _, _, q => by simp [copyTo]
 | p :: es, m2, hm, he, h2, h1, q => by
  have hp := he p (by simp)
  simp only [List.map_cons, List.nodup_cons] at h1
  have ih := mem_copyTo (es := es) (m2 := mset m2 p.1 p.2) (mset_keysOk hm hp) (fun q hq => he q (by simp [hq])) (mset_nodup hm hp h2) h1.2 q
  show q ∈ copyTo (mset m2 p.1 p.2) es ↔ _
  rw [ih, mem_mset hm hp h2]
  constructor
  ·rintro (h | ⟨h | ⟨h, hne⟩, hn⟩)
   ·simp [h]
   ·left; rw [h]; simp
   ·right
    refine ⟨h, ?_⟩
    simp only [List.map_cons, List.mem_cons, not_or]
    exact ⟨hne, hn⟩
  ·rintro (h | ⟨h, hn⟩)
   ·rcases List.mem_cons.1 h with h | h
    ·right
     refine ⟨.inl h, ?_⟩
     rw [h]; exact h1.1
    ·exact .inl h
   ·simp only [List.map_cons, List.mem_cons, not_or] at hn
    exact .inr ⟨.inr ⟨h, hn.1⟩, hn.2⟩
theorem nodup_of_map {α β : Type} {f : α → β} : ∀ {l : List α}, (l.map f).Nodup → l.Nodup
 | [], _ => List.nodup_nil
 | a :: l, h => by
  simp only [List.map_cons, List.nodup_cons] at h
  exact List.nodup_cons.2 ⟨fun hm => h.1 (List.mem_map_of_mem hm), nodup_of_map h.2⟩
theorem copyTo_perm {m2 es d : List (Value × AV)} (hm : KeysOk m2) (he : KeysOk es) (h2 : (m2.map (·.1)).Nodup) (h1 : (es.map (·.1)).Nodup) (hp : d.Perm es) : (copyTo m2 d).Perm (copyTo m2 es) := by
 have hd : KeysOk d := fun p h => he p (hp.mem_iff.1 h)
 have hdn : (d.map (·.1)).Nodup := (hp.map _).nodup_iff.2 h1
 refine (List.perm_ext_iff_of_nodup (nodup_of_map (copyTo_nodup hm hd h2)) (nodup_of_map (copyTo_nodup hm he h2))).2 fun q => ?_
 rw [mem_copyTo hm hd h2 hdn, mem_copyTo hm he h2 h1, hp.mem_iff, (hp.map (·.1)).mem_iff]
def copyLeft (E : Array MapEntry) (a : Act) (w : World) : Nat :=
 match (a.tmps[62]? : Option Value) with
 | some (Value.pointer (some ad)) => match (w.heap[ad.block]? : Option Obj) with
  | some (Obj.mapIter _ _ seen _) => (leftOf E seen).size
  | _ => 0
 | _ => 0
theorem leftOf_push {E : Array MapEntry} {seen : Array Nat} {e : MapEntry} (he : e ∈ (leftOf E seen).toList) : (leftOf E (seen.push e.born)).size < (leftOf E seen).size := by
 have h1 : (leftOf E (seen.push e.born)).toList = (leftOf E seen).toList.filter fun x => x.born != e.born := by
  unfold leftOf
  simp only [Array.toList_filter, List.filter_filter]
  congr 1
  funext x
  by_cases hx : x.born = e.born
  ·simp [hx]
  ·simp [hx]
 rw [← Array.length_toList, ← Array.length_toList, h1]
 refine List.length_filter_lt_length_iff_exists.2 ⟨e, he, by simp⟩
theorem perm_draw {α : Type} {f : α → Nat} : ∀ {L : List α} {x : α}, (L.map f).Nodup → x ∈ L → L.Perm (x :: L.filter fun y => f y != f x)
 | [], _, _, h => by cases h
 | a :: l, x, hn, h => by
  simp only [List.map_cons, List.nodup_cons] at hn
  rcases List.mem_cons.1 h with rfl | h
  ·have : (x :: l).filter (fun y => f y != f x) = l := by
    rw [List.filter_cons]
    simp only [bne_self_eq_false, Bool.false_eq_true, if_false]
    refine List.filter_eq_self.2 fun y hy => ?_
    have : f y ≠ f x := fun e => hn.1 (e ▸ List.mem_map_of_mem hy)
    simpa using this
   rw [this]
  ·have hne : f a ≠ f x := fun e => hn.1 (e ▸ List.mem_map_of_mem h)
   have : (a :: l).filter (fun y => f y != f x) = a :: l.filter (fun y => f y != f x) := by
    rw [List.filter_cons]
    simp [hne]
   rw [this]
   exact ((perm_draw hn.2 h).cons a).trans (.swap _ _ _)
theorem run_rangeMap {w : World} {b clock : Nat} {E : Array MapEntry} (h : w.heap[b]? = some (.map E clock)) :
  (Instr.range 260 (.map (some b))).run Tryz.prog w = .ok (.pointer (some ⟨w.heap.size, 0, none⟩)) { w with heap := w.heap.push (.mapIter (some b) clock #[] clock) } := by
 unfold Instr.range
 rw [Sem.run_bind, run_underlying ty_u143]
 simp only [Result.andThen_ok]
 rw [Sem.run_bind, show (getObj b).run Tryz.prog w = .ok (.map E clock) w by simp only [getObj, Sem.run, h]]
 rfl
section
variable {o22 o23 o24 o25 : Array Oper} (hO : CopyOps o22 o23 o24 o25)
include hO
theorem copy_run {V : Trie AV} {H : List Blk} {ds : List Nat} {gb id1 id2 : Nat} {gcells : List AV} {gt : TypeId} {es m2 : List (Value × AV)} {ro : Option Nat} (h8 : get V 8 = some (.mp id1)) (h2 : get V 2 = some (.ptr gb 0))
    (hg : H[gb]? = some (.box gcells gt)) (hgc : (gcells.drop 4).head? = some (.mp id2)) (hm1 : H[id1]? = some (.map (.arr 5) es)) (hm2 : H[id2]? = some (.map (.arr 5) m2)) (hne : id1 ≠ id2) :
    Run Tryz.prog ro (copyCode o22 o23 o24 o25) ⟨72, V, H, ds⟩ .normal ⟨72, dropAll V copySlots, H.set id2 (.map (.arr 5) (copyTo m2 es)), ds⟩ := by
  intro O ι0 a0 w0 cro hro hs
  have hR : Rel ⟨H, ι0, w0⟩ := hs.rel
  have hlt1 := (List.getElem?_eq_some_iff.1 hm1).1
  have hlt2 := (List.getElem?_eq_some_iff.1 hm2).1
  have hltg := (List.getElem?_eq_some_iff.1 hg).1
  obtain ⟨c8, hc8, hr8⟩ := hs.vars 8 _ h8
  simp only [VRel] at hr8
  obtain ⟨b1, wm1, hi1, hn1, rfl⟩ := hr8
  obtain ⟨B1, hB1, hrel1⟩ := hR.blk id1 b1 wm1 hi1
  have hB1' : H[id1]? = some B1 := hB1
  rw [hm1] at hB1'; cases hB1'
  obtain ⟨E, clock, hE, hM⟩ := hrel1
  obtain ⟨ps, hperm, hkeys, hvals⟩ := hM.ents
  have hpsl : E.toList.length = ps.length := by have := congrArg List.length hkeys; simpa using this
  -- the other map
  obtain ⟨c2, hc2, hr2⟩ := hs.vars 2 _ h2
  simp only [VRel] at hr2
  obtain ⟨bg, wmg, hig, hng, rfl⟩ := hr2
  obtain ⟨Bg, hBg, hrelg⟩ := hR.blk gb bg wmg hig
  have hBg' : H[gb]? = some Bg := hBg
  rw [hg] at hBg'; cases hBg'
  obtain ⟨Cg, hCg, hcells⟩ := hrelg
  have hmp2 : ∃ b2 wm2, ι0 id2 = some (b2, wm2) := by
    have h4 : gcells[4]? = some (.mp id2) := by
      rw [List.head?_drop] at hgc; exact hgc
    obtain ⟨c, _, hr⟩ := hcells.get h4
    simp only [VRel] at hr
    obtain ⟨b2, wm2, hi2, _⟩ := hr
    exact ⟨b2, wm2, hi2⟩
  obtain ⟨b2, wm2, hi2⟩ := hmp2
  obtain ⟨B2, hB2, hrel2⟩ := hR.blk id2 b2 wm2 hi2
  have hB2' : H[id2]? = some B2 := hB2
  rw [hm2] at hB2'; cases hB2'
  obtain ⟨E2, clock2, _, hM2⟩ := hrel2
  have hK2 : KeysOk m2 := hM2.keys
  have hK1 : KeysOk es := hM.keys
  have hnd1 := hM.nodup
  have hnd2 := hM2.nodup
  have hneg1 : gb ≠ id1 := by rintro rfl; rw [hg] at hm1; cases hm1
  have hneg2 : gb ≠ id2 := by rintro rfl; rw [hg] at hm2; cases hm2
  -- what the copies hold lies below
  have hund : ∀ S2 : Sit, Ev ⟨H, ι0, w0⟩ S2 → ∀ d : List (Value × AV), (∀ p ∈ d, p ∈ ps) → AV.unders S2.H.length ((copyTo m2 d).map (·.2)) := by
    intro S2 hS2 d hd
    rw [AV.unders_mem]
    intro a ha
    obtain ⟨q, hq, rfl⟩ := List.mem_map.1 ha
    have u1 : AV.unders S2.H.length (ps.map (·.2)) := VRels.under (S := S2) _ _ (VRels.ev hS2 _ _ hvals)
    have u2 : AV.unders S2.H.length (m2.map (·.2)) := by
      obtain ⟨ps2, hperm2, _, hvals2⟩ := hM2.ents
      have := VRels.under (S := S2) _ _ (VRels.ev hS2 _ _ hvals2)
      rw [AV.unders_mem] at this ⊢
      intro a ha
      exact this a ((hperm2.map _).mem_iff.2 ha)
    rcases copyTo_snd hq with ⟨p, hp, he⟩ | hq
    · rw [he]; exact AV.unders_mem.1 u1 _ (List.mem_map_of_mem (hd p hp))
    · exact AV.unders_mem.1 u2 _ (List.mem_map_of_mem hq)
  -- the map, as it is
  have hE' : w0.heap[b1]? = some (.map E clock) := hE
  have hev0 : Ev ⟨H, ι0, w0⟩ ⟨H.set id1 (.obj (.map E clock)), ι0, w0⟩ := Ev.write hR (w' := w0) hi1 hm1 rfl rfl (fun _ _ => rfl)
  have hR0 : Rel ⟨H.set id1 (.obj (.map E clock)), ι0, w0⟩ := Rel.write hR (w' := w0) hi1 hm1 rfl rfl (fun _ _ => rfl) hE'
  have hs0 : SRel ⟨72, V, H.set id1 (.obj (.map E clock)), ds⟩ ι0 a0 w0 := ⟨hR0, hs.size, hs.vars.ev hev0, hs.defs.ev hev0 (keepsD_put hm1 (by simp))⟩
  let HM := H.set id1 (.obj (.map E clock))
  let HL : List (Value × AV) → Array Nat → List Blk := fun d seen => HM.set id2 (.map (.arr 5) (copyTo m2 d)) ++ [.obj (.mapIter (some b1) clock seen clock)]
  have hlHL : ∀ d seen, (HL d seen).length = H.length + 1 := fun d seen => by simp [HL, HM]
  have at1 : ∀ d seen, (HL d seen)[id1]? = some (.obj (.map E clock)) := fun d seen => by
    simp only [HL, HM]
    rw [List.getElem?_append_left (by simpa using hlt1), List.getElem?_set_ne (Ne.symm hne)]
    simp [hlt1]
  have at2 : ∀ d seen, (HL d seen)[id2]? = some (.map (.arr 5) (copyTo m2 d)) := fun d seen => by
    simp only [HL, HM]
    rw [List.getElem?_append_left (by simpa using hlt2)]
    simp [hlt2]
  have atg : ∀ d seen, (HL d seen)[gb]? = some (.box gcells gt) := fun d seen => by
    simp only [HL, HM]
    rw [List.getElem?_append_left (by simpa using hltg), List.getElem?_set_ne (Ne.symm hneg2), List.getElem?_set_ne (Ne.symm hneg1)]
    exact hg
  have atn : ∀ d seen, (HL d seen)[H.length]? = some (.obj (.mapIter (some b1) clock seen clock)) := fun d seen => by
    simp only [HL, HM]
    rw [List.getElem?_append_right (by simp)]
    simp
  have HL0 : HL [] #[] = HM ++ [.obj (.mapIter (some b1) clock #[] clock)] := by
    simp only [HL, copyTo, List.foldl_nil]
    congr 1
    refine List.ext_getElem? fun i => ?_
    by_cases hi : id2 = i
    · subst hi
      have : HM[id2]? = some (.map (.arr 5) m2) := by
        show (H.set id1 _)[id2]? = _
        rw [List.getElem?_set_ne hne]; exact hm2
      rw [this, List.getElem?_set_self (by simpa [HM] using hlt2)]
    · rw [List.getElem?_set_ne hi]
  let V1 := set (dropAll V copySlots) 62 (.ptr H.length 0)
  have hV1 : ∀ V2 : Trie AV, (∀ t, t ∉ copySlots → get V2 t = get V t) → get V2 62 = some (.ptr H.length 0) → ∀ t v, get V1 t = some v → get V2 t = some v := by
    intro V2 hV2 h62 t v hv
    by_cases h : t = 62
    · subst h
      have : get V1 62 = some (.ptr H.length 0) := get_set_same _ _ _
      rw [this] at hv; rw [h62]; exact hv
    · have : get V1 t = get (dropAll V copySlots) t := get_set_other _ _ _ _ (Ne.symm h)
      rw [this, get_dropAll] at hv
      split at hv
      · cases hv
      · rename_i hn; rw [hV2 t hn]; exact hv
  have V1_2 : get V1 2 = some (.ptr gb 0) := by
    have : get V1 2 = get (dropAll V copySlots) 2 := get_set_other _ _ _ _ (by decide)
    rw [this, get_dropAll, if_neg (by decide)]; exact h2
  have V1_62 : get V1 62 = some (.ptr H.length 0) := get_set_same _ _ _
  -- what holds at a round's head
  let I : Act → World → Prop := fun a w => ∃ ι seen d, SRel ⟨72, V1, HL d seen, ds⟩ ι a w ∧ Ev ⟨H, ι0, w0⟩ ⟨HL d seen, ι, w⟩ ∧ Non ⟨H, ι0, w0⟩ ⟨HL d seen, ι, w⟩ ∧
    (d ++ ((E.toList.zip ps).filter fun q => !seen.contains q.1.born).map (·.2)).Perm ps
  have conc : ∀ {ι : Nat → Option (Nat × Nat)} {seen : Array Nat} {d : List (Value × AV)} {a : Act} {w : World}, SRel ⟨72, V1, HL d seen, ds⟩ ι a w → Ev ⟨H, ι0, w0⟩ ⟨HL d seen, ι, w⟩ →
      ∃ r wr, a.tmps[62]? = some (.pointer (some ⟨r, 0, none⟩)) ∧ ι H.length = some (r, wr) ∧ w.heap[r]? = some (.mapIter (some b1) clock seen clock) ∧ w.heap[b1]? = some (.map E clock) ∧ copyLeft E a w = (leftOf E seen).size := by
    intro ι seen d a w hs hev
    obtain ⟨c, hc, hr⟩ := hs.vars 62 _ V1_62
    simp only [VRel] at hr
    obtain ⟨r, wr, hir, _, rfl⟩ := hr
    obtain ⟨B, hB, hrel⟩ := hs.rel.blk H.length r wr hir
    have hB' : (HL d seen)[H.length]? = some B := hB
    rw [atn] at hB'; cases hB'
    have hrel' : w.heap[r]? = some (.mapIter (some b1) clock seen clock) := hrel
    obtain ⟨wm', hi1'⟩ := (hev.ptr id1 hn1).2 b1 wm1 hi1
    obtain ⟨B, hB, hrelb⟩ := hs.rel.blk id1 b1 wm' hi1'
    have hB' : (HL d seen)[id1]? = some B := hB
    rw [at1] at hB'; cases hB'
    refine ⟨r, wr, hc, hir, hrel', hrelb, ?_⟩
    simp only [copyLeft, hc, hrel']
  have hmemE : ∀ {e : MapEntry} {seen : Array Nat}, e ∈ (leftOf E seen).toList → e ∈ E.toList ∧ seen.contains e.born = false := by
    intro e seen he
    simp only [leftOf, Array.toList_filter, List.mem_filter] at he
    exact ⟨he.1, by simpa using he.2⟩
  -- the range
  refine wpIn_seq (wpIn_region ?_)
  rw [hO.s22]
  show wpOpsIn (Fr cro) 0 Tryz.prog o22 _ [0, 1] a0 w0
  rw [wpOpsIn_cons]
  have st0 : AStep Tryz.prog o22 0 ⟨72, V, HM, ds⟩ ⟨72, set V 61 (.mp id1), HM, ds⟩ := astep hO.a0 (fun ty pos after => by simp [aop, St.eval, h8]) (keepsD_refl _) (by decide)
  refine st0.sound hs0 fun ι1 a1 w1 hs1 hev1 hnon1 => ?_
  rw [wpOpsIn_cons]
  obtain ⟨c61, hc61, hr61⟩ := hs1.vars 61 _ (get_set_same _ _ _)
  simp only [VRel] at hr61
  obtain ⟨b1', wm1', hi1', hn1', rfl⟩ := hr61
  have hb1' : b1' = b1 := by
    obtain ⟨wm, h⟩ := (hev1.ptr id1 ⟨_, by show HM[id1]? = some (.obj (.map E clock)); simp [HM, hlt1], rfl⟩).2 b1 wm1 hi1
    have h' : ι1 id1 = some (b1, wm) := h
    have hi' : ι1 id1 = some (b1', wm1') := hi1'
    rw [h'] at hi'; cases hi'; rfl
  subst hb1'
  have hE1 : w1.heap[b1']? = some (.map E clock) := by
    obtain ⟨B, hB, hrel⟩ := hs1.rel.blk id1 b1' wm1' hi1'
    have hB' : HM[id1]? = some B := hB
    rw [show HM[id1]? = some (Blk.obj (.map E clock)) by simp [HM, hlt1]] at hB'; cases hB'
    exact hrel
  obtain ⟨ty, pos, after, ho1⟩ := hO.a1
  refine wpOp_exec ho1 rfl (fun c h => by cases h) (c := .pointer (some ⟨w1.heap.size, 0, none⟩)) (w' := { w1 with heap := w1.heap.push (.mapIter (some b1') clock #[] clock) }) ?_ ?_
  · show (do pure (.value (← Instr.range 260 (a1.eval (.tmp 61)))) : Sem Next).run Tryz.prog w1 = _
    have : a1.eval (.tmp 61) = .map (some b1') := by simp [Act.eval, hc61]
    rw [this, Sem.run_bind, run_rangeMap hE1]
    rfl
  have hlHM : HM.length = H.length := by simp [HM]
  have hev2 := Ev.alloc hs1.rel (w' := { w1 with heap := w1.heap.push (.mapIter (some b1') clock #[] clock) }) (.obj (.mapIter (some b1') clock #[] clock)) 0 rfl
  have hR2 := Rel.alloc hs1.rel (w' := { w1 with heap := w1.heap.push (.mapIter (some b1') clock #[] clock) }) (.obj (.mapIter (some b1') clock #[] clock)) 0 rfl (by
    show (w1.heap.push _)[w1.heap.size]? = _; simp)
  have hv2 : VRel ⟨HM ++ [.obj (.mapIter (some b1') clock #[] clock)], upd ι1 HM.length (some (w1.heap.size, 0)), { w1 with heap := w1.heap.push (.mapIter (some b1') clock #[] clock) }⟩ (.ptr H.length 0) (.pointer (some ⟨w1.heap.size, 0, none⟩)) := by
    simp only [VRel]
    refine ⟨w1.heap.size, 0, ?_, ⟨.obj (.mapIter (some b1') clock #[] clock), ?_, rfl⟩, rfl⟩
    · rw [hlHM]; exact upd_same ..
    · rw [← hlHM]; simp
  have hs2 := hs1.put hR2 hev2 (keepsD_append _ _) hv2 (dst := some 62) (putA_some (by show 62 < 72; decide))
  have hs2' : SRel ⟨72, V1, HL [] #[], ds⟩ (upd ι1 HM.length (some (w1.heap.size, 0))) (a1.put (some 62) (.pointer (some ⟨w1.heap.size, 0, none⟩))) { w1 with heap := w1.heap.push (.mapIter (some b1') clock #[] clock) } := by
    rw [HL0]
    refine SRel.fewer (σ := ⟨72, set (set V 61 (.mp id1)) 62 (.ptr H.length 0), _, ds⟩) hs2 (hV1 _ (fun t ht => ?_) (get_set_same _ _ _))
    simp only [copySlots, List.mem_cons, List.not_mem_nil, or_false, not_or] at ht
    rw [get_set_other _ _ _ _ (by omega), get_set_other _ _ _ _ (by omega)]
  have hI0 : I (a1.put (some 62) (.pointer (some ⟨w1.heap.size, 0, none⟩))) { w1 with heap := w1.heap.push (.mapIter (some b1') clock #[] clock) } := by
    refine ⟨_, #[], [], hs2', ?_, ?_, ?_⟩
    · rw [HL0]; exact (hev0.trans hev1).trans hev2
    · rw [HL0]
      have n0 : Non ⟨H, ι0, w0⟩ ⟨HM, ι0, w0⟩ := fun _ _ h => h
      exact (n0.trans hev0 hnon1).trans (hev0.trans hev1) Non.alloc
    · have : (E.toList.zip ps).filter (fun q => !(#[] : Array Nat).contains q.1.born) = E.toList.zip ps := List.filter_eq_self.2 fun q _ => by simp
      rw [this, List.nil_append, List.map_snd_zip (by omega)]
  simp only [wpOpsIn]
  show Code.wpIn (Fr cro) 0 Tryz.prog (.block 6 (.loop _)) _ _ _
  refine wpIn_block (wpIn_loop I (copyLeft E) hI0 ?_)
  rintro a w ⟨ι, seen, d, hs3, hev3, hnon3, hperm3⟩
  obtain ⟨r, wr, h62, hir, hit, hEw, hleft⟩ := conc hs3 hev3
  have heval62 : a.eval (.tmp 62) = .pointer (some ⟨r, 0, none⟩) := by simp [Act.eval, h62]
  refine wpIn_seq (wpIn_region ?_)
  rw [hO.s23]
  show wpOpsIn (Fr cro) 0 Tryz.prog o23 _ [0, 1] a w
  rw [wpOpsIn_cons]
  obtain ⟨tyb, posb, afterb, hob⟩ := hO.b0
  rcases run_next_at (P := Tryz.prog) w tyb r b1' clock clock seen E clock hit hEw hM.born (Nat.le_refl _) with ⟨hz, hrun⟩ | ⟨e, he, w4, hw4, hrun⟩
  · -- nothing is left
    refine wpOp_exec hob rfl (fun c h => by cases h) (c := .tuple #[.bool false]) (w' := w) (by
      show (do pure (.value (← Instr.next (a.eval (.tmp 62)) false tyb)) : Sem Next).run Tryz.prog w = _
      rw [heval62, Sem.run_bind, hrun]; rfl) ?_
    rw [wpOpsIn_cons]
    have hs4 := hs3.put hs3.rel (Ev.refl _) (keepsD_refl _) (v := .tup [.lit (.bool false)]) (c := .tuple #[.bool false]) (by simp [VRel, VRels]) (dst := some 63) (putA_some (by show 63 < 72; decide))
    have st5 : AStep Tryz.prog o23 1 ⟨72, set V1 63 (.tup [.lit (.bool false)]), HL d seen, ds⟩ ⟨72, set (set V1 63 (.tup [.lit (.bool false)])) 64 (.lit (.bool false)), HL d seen, ds⟩ :=
      astep hO.b1 (fun ty pos after => by simp [aop, St.eval, get_set_same]) (keepsD_refl _) (by decide)
    refine st5.sound hs4 fun ι5 a5 w5 hs5 hev5 hnon5 => ?_
    simp only [wpOpsIn]
    show Code.wpIn (Fr cro) 0 Tryz.prog (.seq (.cond (.tmp 64) .skip (.exit 6)) (.block 7 _)) _ _ _
    refine wpIn_seq ?_
    have h64 : a5.eval (.tmp 64) = .bool false := by
      obtain ⟨c, hc, hr⟩ := hs5.vars 64 _ (get_set_same _ _ _)
      simp only [VRel] at hr
      simp [Act.eval, hc, hr]
    refine wpIn_cond_false h64 (wpIn_exit ?_)
    show Exit.inBlock 6 (Post ⟨H, ι0, w0⟩ .normal _) (.exit 6) a5 w5
    simp only [Exit.inBlock, if_true]
    -- the end
    have hev6 := hev3.trans hev5
    have hnon6 := hnon3.trans hev3 hnon5
    have hd : d.Perm es := by
      have : ((E.toList.zip ps).filter fun q => !seen.contains q.1.born) = [] := by
        refine List.filter_eq_nil_iff.2 fun q hq => ?_
        have hz' : (leftOf E seen).toList = [] := by
          have := Array.eq_empty_of_size_eq_zero hz
          rw [this]
        have hqE : q.1 ∈ E.toList := (List.of_mem_zip hq).1
        intro hc
        have : q.1 ∈ (leftOf E seen).toList := by
          simp only [leftOf, Array.toList_filter, List.mem_filter]
          exact ⟨hqE, hc⟩
        rw [hz'] at this; cases this
      rw [this] at hperm3
      simp only [List.map_nil, List.append_nil] at hperm3
      exact hperm3.trans hperm
    have hKd : KeysOk d := fun p h => hK1 p (hd.mem_iff.1 h)
    obtain ⟨wm6, hi16⟩ := (hev6.ptr id1 hn1).2 b1' wm1 hi1
    have hi16' : ι5 id1 = some (b1', wm6) := hi16
    -- the first map is itself again
    have hB6 : (HL d seen)[id1]? = some (.obj (.map E clock)) := at1 d seen
    obtain ⟨B6, hB6', hrel6⟩ := hs5.rel.blk id1 b1' wm6 hi16'
    have hB6'' : (HL d seen)[id1]? = some B6 := hB6'
    rw [hB6] at hB6''; cases hB6''
    have hE6 : w5.heap[b1']? = some (.map E clock) := hrel6
    have hev7 : Ev ⟨HL d seen, ι5, w5⟩ ⟨(HL d seen).set id1 (.map (.arr 5) es), ι5, w5⟩ := Ev.write hs5.rel (w' := w5) hi16' hB6 rfl rfl (fun _ _ => rfl)
    have hR7 : Rel ⟨(HL d seen).set id1 (.map (.arr 5) es), ι5, w5⟩ := Rel.write hs5.rel (w' := w5) hi16' hB6 rfl rfl (fun _ _ => rfl) ⟨E, clock, hE6, ⟨ps, hperm, hkeys, hvals.ev (hev6.trans hev7)⟩, hM.keys, hM.nodup, hM.stamps, hM.born⟩
    -- the other one's order
    have hev67 := hev6.trans hev7
    obtain ⟨wm8, hi28⟩ := (hev67.ptr id2 ⟨_, hm2, rfl⟩).2 b2 wm2 hi2
    have hi28' : ι5 id2 = some (b2, wm8) := hi28
    have hB8 : ((HL d seen).set id1 (.map (.arr 5) es))[id2]? = some (.map (.arr 5) (copyTo m2 d)) := by
      rw [List.getElem?_set_ne hne]; exact at2 d seen
    obtain ⟨B8, hB8', hrel8⟩ := hR7.blk id2 b2 wm8 hi28'
    have hB8'' : ((HL d seen).set id1 (.map (.arr 5) es))[id2]? = some B8 := hB8'
    rw [hB8] at hB8''; cases hB8''
    obtain ⟨E8, clock8, hE8, hM8⟩ := hrel8
    have hE8' : w5.heap[b2]? = some (.map E8 clock8) := hE8
    have hpp := copyTo_perm hK2 hK1 hnd2 hnd1 hd
    have hev8 : Ev ⟨(HL d seen).set id1 (.map (.arr 5) es), ι5, w5⟩ ⟨((HL d seen).set id1 (.map (.arr 5) es)).set id2 (.map (.arr 5) (copyTo m2 es)), ι5, w5⟩ := Ev.write hR7 (w' := w5) hi28' hB8 rfl rfl (fun _ _ => rfl)
    obtain ⟨ps8, hp8, hk8, hv8⟩ := hM8.ents
    have hR8 : Rel ⟨((HL d seen).set id1 (.map (.arr 5) es)).set id2 (.map (.arr 5) (copyTo m2 es)), ι5, w5⟩ := Rel.write hR7 (w' := w5) hi28' hB8 rfl rfl (fun _ _ => rfl)
      ⟨E8, clock8, hE8', ⟨ps8, hp8.trans hpp, hk8, hv8.ev hev8⟩, copyTo_keys hK2 hK1, copyTo_nodup hK2 hK1 hnd2, hM8.stamps, hM8.born⟩
    have hsF : SRel ⟨72, set (set V1 63 (.tup [.lit (.bool false)])) 64 (.lit (.bool false)), ((HL d seen).set id1 (.map (.arr 5) es)).set id2 (.map (.arr 5) (copyTo m2 es)), ds⟩ ι5 a5 w5 :=
      ⟨hR8, hs5.size, (hs5.vars.ev hev7).ev hev8, (hs5.defs.ev hev7 (keepsD_put hB6 (by simp))).ev hev8 (keepsD_put hB8 (by simp))⟩
    have hevF := hev67.trans hev8
    have hHF : (((HL d seen).set id1 (.map (.arr 5) es)).set id2 (.map (.arr 5) (copyTo m2 es))).take H.length = H.set id2 (.map (.arr 5) (copyTo m2 es)) := by
      refine List.ext_getElem? fun i => ?_
      by_cases hi : i < H.length
      · rw [List.getElem?_take_of_lt hi]
        by_cases h2' : id2 = i
        · subst h2'
          rw [List.getElem?_set_self (by simp [hlHL]; omega), List.getElem?_set_self hi]
        · rw [List.getElem?_set_ne h2', List.getElem?_set_ne h2']
          by_cases h1' : id1 = i
          · subst h1'
            rw [List.getElem?_set_self (by rw [hlHL]; omega)]; exact hm1.symm
          · rw [List.getElem?_set_ne h1']
            simp only [HL, HM]
            rw [List.getElem?_append_left (by simpa using hi), List.getElem?_set_ne h2', List.getElem?_set_ne h1']
      · rw [List.getElem?_eq_none (by simp; omega), List.getElem?_eq_none (by simp; omega)]
    have hV0 : ∀ t v, get (dropAll V copySlots) t = some v → get V t = some v := fun t v hv => by
      rw [get_dropAll] at hv; split at hv
      · cases hv
      · exact hv
    have hback := SRel.back (vars0 := dropAll V copySlots) (hs.fewer hV0) hsF hevF (by
        intro id h1 h2
        exact hnon6 id h1 h2) (fun t v hv => by
        have ht : t ∉ copySlots := fun ht => by rw [get_dropAll, if_pos ht] at hv; cases hv
        have e1 : get V1 t = some v := by
          have : get V1 t = get (dropAll V copySlots) t := get_set_other _ _ _ _ (fun e => ht (by subst e; decide))
          rw [this]; exact hv
        rw [get_set_other _ _ _ _ (fun e => ht (by subst e; decide)), get_set_other _ _ _ _ (fun e => ht (by subst e; decide))]
        exact e1) (fun id hlt => by
        have hq : (H.set id2 (.map (.arr 5) (copyTo m2 es)))[id]? = (((HL d seen).set id1 (.map (.arr 5) es)).set id2 (.map (.arr 5) (copyTo m2 es)))[id]? := by
          rw [← hHF, List.getElem?_take_of_lt hlt]
        by_cases h2' : id2 = id
        · subst h2'
          right
          refine ⟨_, List.getElem?_set_self (by simp [hlHL]; omega), ?_⟩
          exact hund ⟨H, ι0, w0⟩ (Ev.refl _) es fun p hp => hperm.mem_iff.2 hp
        · left
          rw [← hq, List.getElem?_set_ne h2'])
    rw [hHF] at hback
    refine ⟨_, trivial, hback, ?_, ?_⟩
    · have := hevF.cut; simp only [hHF] at this; exact this
    · have : Non ⟨H, ι0, w0⟩ ⟨((HL d seen).set id1 (.map (.arr 5) es)).set id2 (.map (.arr 5) (copyTo m2 es)), ι5, w5⟩ := fun id h1 h2 => hnon6 id h1 h2
      have := this.cut; simp only [hHF] at this; exact this
  · -- an entry is drawn
    have he' := hmemE he
    obtain ⟨j, hje⟩ := List.getElem?_of_mem he'.1
    have hjl : j < ps.length := by rw [← hpsl]; exact (List.getElem?_eq_some_iff.1 hje).1
    obtain ⟨p, hjp⟩ : ∃ p, ps[j]? = some p := ⟨_, List.getElem?_eq_getElem hjl⟩
    have hkey : e.key = p.1 := by
      have := congrArg (fun l => l[j]?) hkeys
      simp only [List.getElem?_map, hje, hjp, Option.map_some, Option.some.injEq] at this
      first | exact this | exact this.symm
    have hpm : p ∈ ps := List.mem_of_getElem? hjp
    have hv0 : VRel ⟨H, ι0, w0⟩ p.2 e.val := by
      obtain ⟨c, hc, hr⟩ := hvals.get (i := j) (a := p.2) (by simp [hjp])
      simp only [List.getElem?_map, hje, Option.map_some, Option.some.injEq] at hc
      rw [hc]; exact hr
    have hsh : shOk (.arr 5) e.key = true := by rw [hkey]; exact hK1 p (hperm.mem_iff.1 hpm)
    obtain ⟨C, hC⟩ : ∃ C, e.key = .agg C := by
      cases hk : e.key <;> rw [hk] at hsh <;> simp [shOk] at hsh
      exact ⟨_, rfl⟩
    let seen2 := seen.push e.born
    have hsetHL : (HL d seen).set H.length (.obj (.mapIter (some b1') clock seen2 clock)) = HL d seen2 := by
      simp only [HL]
      rw [List.set_append_right _ _ (by simp [hlHM])]
      simp [hlHM]
    let w5 := setBlock w4 r (.mapIter (some b1') clock seen2 clock)
    have hw5 : ∀ b', b' ≠ r → w5.heap[b']? = w.heap[b']? := fun b' hb' => by
      have : w4.heap = w.heap := by rcases hw4 with rfl | rfl <;> rfl
      show (w4.heap.setIfInBounds r _)[b']? = _
      rw [Array.getElem?_setIfInBounds_ne (Ne.symm hb'), this]
    have hos5 : Rest w w5 := by rcases hw4 with rfl | rfl <;> exact ⟨rfl, rfl⟩
    have hr5 : w5.heap[r]? = some (.mapIter (some b1') clock seen2 clock) := by
      have : w4.heap = w.heap := by rcases hw4 with rfl | rfl <;> rfl
      show (w4.heap.setIfInBounds r _)[r]? = _
      rw [Array.getElem?_setIfInBounds_self_of_lt]
      rw [this]; exact (Array.getElem?_eq_some_iff.1 hit).1
    have hev4 : Ev ⟨HL d seen, ι, w⟩ ⟨HL d seen2, ι, w5⟩ := by
      have := Ev.write hs3.rel (w' := w5) hir (atn d seen) (B' := .obj (.mapIter (some b1') clock seen2 clock)) rfl rfl hw5 hos5
      simp only [hsetHL] at this; exact this
    have hR4 : Rel ⟨HL d seen2, ι, w5⟩ := by
      have := Rel.write hs3.rel (w' := w5) hir (atn d seen) (B' := .obj (.mapIter (some b1') clock seen2 clock)) rfl rfl hw5 hr5 hos5
      simp only [hsetHL] at this; exact this
    have hkD : keepsD (HL d seen) (HL d seen2) := by
      rw [← hsetHL]; exact keepsD_put (atn d seen) (by simp)
    have hs4 : SRel ⟨72, V1, HL d seen2, ds⟩ ι a w5 := ⟨hR4, hs3.size, hs3.vars.ev hev4, hs3.defs.ev hev4 hkD⟩
    have hnon4 : Non ⟨HL d seen, ι, w⟩ ⟨HL d seen2, ι, w5⟩ := fun _ _ h => h
    have hevA := hev3.trans hev4
    have hnonA := hnon3.trans hev3 hnon4
    have hv4 := VRel.ev hevA _ _ hv0
    refine wpOp_exec hob rfl (fun c h => by cases h) (c := .tuple #[.bool true, e.key, e.val]) (w' := w5) (by
      show (do pure (.value (← Instr.next (a.eval (.tmp 62)) false tyb)) : Sem Next).run Tryz.prog w = _
      rw [heval62, Sem.run_bind, hrun]; rfl) ?_
    rw [wpOpsIn_cons]
    have hs5 := hs4.put hs4.rel (Ev.refl _) (keepsD_refl _) (v := .tup [.lit (.bool true), .lit e.key, p.2]) (c := .tuple #[.bool true, e.key, e.val]) (by
      simp only [VRel]
      exact ⟨_, rfl, by simp only [VRels, VRel]; exact ⟨trivial, trivial, hv4, trivial⟩⟩) (dst := some 63) (putA_some (by show 63 < 72; decide))
    have st6 : AStep Tryz.prog o23 1 ⟨72, set V1 63 (.tup [.lit (.bool true), .lit e.key, p.2]), HL d seen2, ds⟩ ⟨72, set (set V1 63 (.tup [.lit (.bool true), .lit e.key, p.2])) 64 (.lit (.bool true)), HL d seen2, ds⟩ :=
      astep hO.b1 (fun ty pos after => by simp [aop, St.eval, get_set_same]) (keepsD_refl _) (by decide)
    refine st6.sound hs5 fun ι6 a6 w6 hs6 hev6 hnon6 => ?_
    simp only [wpOpsIn]
    show Code.wpIn (Fr cro) 0 Tryz.prog (.seq (.cond (.tmp 64) .skip (.exit 6)) (.block 7 _)) _ _ _
    refine wpIn_seq ?_
    have h64 : a6.eval (.tmp 64) = .bool true := by
      obtain ⟨c, hc, hr⟩ := hs6.vars 64 _ (get_set_same _ _ _)
      simp only [VRel] at hr
      simp [Act.eval, hc, hr]
    refine wpIn_cond_true h64 (wpIn_skip ?_)
    show Code.wpIn (Fr cro) 0 Tryz.prog (.block 7 _) _ _ _
    refine wpIn_block (wpIn_seq (wpIn_region ?_))
    rw [hO.s24]
    show wpOpsIn (Fr cro) 0 Tryz.prog o24 _ [0, 1, 2, 3, 4, 5] a6 w6
    rw [wpOpsIn_cons]
    have hevB : Ev ⟨H, ι0, w0⟩ ⟨HL d seen2, ι6, w6⟩ := hevA.trans hev6
    have hnonB : Non ⟨H, ι0, w0⟩ ⟨HL d seen2, ι6, w6⟩ := hnonA.trans hevA hnon6
    have hs6' : SRel ⟨72, V1, HL d seen2, ds⟩ ι6 a6 w6 := SRel.fewer (σ := ⟨72, set (set V1 63 (.tup [.lit (.bool true), .lit e.key, p.2])) 64 (.lit (.bool true)), HL d seen2, ds⟩) hs6 (hV1 _ (fun t ht => by
        rw [get_set_other _ _ _ _ (fun e => ht (by subst e; decide)), get_set_other _ _ _ _ (fun e => ht (by subst e; decide)), get_set_other _ _ _ _ (fun e => ht (by subst e; decide)), get_dropAll, if_neg ht]) (by
        rw [get_set_other _ _ _ _ (by decide), get_set_other _ _ _ _ (by decide)]; exact V1_62))
    obtain ⟨r6, wr6, h62', hir6, hit6, hE6, hleft6⟩ := conc hs6' hevB
    obtain ⟨tyc, posc, afterc, hoc⟩ := hO.c0
    have heval6 : a6.eval (.tmp 62) = .pointer (some ⟨r6, 0, none⟩) := by simp [Act.eval, h62']
    refine wpOp_exec hoc rfl (fun c h => by cases h) (c := .tuple #[e.key, e.val]) (w' := w6) (by
      show (do pure (.value (← Instr.entry (a6.eval (.tmp 62)))) : Sem Next).run Tryz.prog w6 = _
      rw [heval6, Sem.run_bind, run_entry_at (P := Tryz.prog) w6 r6 b1' clock seen E clock e hit6 hE6 he'.1 hM.stamps]; rfl) ?_
    have hs7 := hs6'.put hs6'.rel (Ev.refl _) (keepsD_refl _) (v := .tup [.lit (.agg C), p.2]) (c := .tuple #[e.key, e.val]) (by
      simp only [VRel]
      exact ⟨_, rfl, by simp only [VRels, VRel]; exact ⟨hC, VRel.ev hevB _ _ hv0, trivial⟩⟩) (dst := some 65) (putA_some (by show 65 < 72; decide))
    obtain ⟨V2, V3, cells, hp1, hp2, hV3⟩ := copy_round hO (V := set V1 65 (.tup [.lit (.agg C), p.2])) (H := HL d seen2) (ds := ds) (C := C) (av := p.2) (gb := gb) (id2 := id2) (gcells := gcells) (gt := gt) (m2 := copyTo m2 d) (by rw [← hC]; exact hsh)
      (get_set_same _ _ _) (by rw [get_set_other _ _ _ _ (by decide)]; exact V1_2) (atg d seen2) hgc (at2 d seen2)
    refine APath.to hp1 hs7 fun ι8 a8 w8 hs8 hev8 hnon8 => ?_
    show Code.wpIn (Fr cro) 0 Tryz.prog (.region 25 o25 false) _ a8 w8
    refine wpIn_region ?_
    rw [hO.s25]
    show wpOpsIn (Fr cro) 0 Tryz.prog o25 _ [0, 1, 2, 3, 4] a8 w8
    refine APath.to hp2 hs8 fun ι9 a9 w9 hs9 hev9 hnon9 => ?_
    have hevC := hev8.trans hev9
    have hnonC := hnon8.trans hev8 hnon9
    have hevD := hevB.trans hevC
    have hmset : mset (copyTo m2 d) (.agg C) p.2 = copyTo m2 (d ++ [p]) := by rw [copyTo_snoc, ← hkey, hC]
    have hpermE : (d ++ [p] ++ ((E.toList.zip ps).filter fun q => !seen2.contains q.1.born).map (·.2)).Perm ps := by
      have hL : ((E.toList.zip ps).filter fun q => !seen2.contains q.1.born) = ((E.toList.zip ps).filter fun q => !seen.contains q.1.born).filter fun q => q.1.born != e.born := by
        rw [List.filter_filter]
        congr 1
        funext q
        by_cases hq : q.1.born = e.born <;> simp [seen2, hq]
      have hmem : (e, p) ∈ (E.toList.zip ps).filter fun q => !seen.contains q.1.born := by
        refine List.mem_filter.2 ⟨List.mem_of_getElem? (i := j) ?_, by show (!seen.contains e.born) = true; rw [he'.2]; rfl⟩
        rw [List.getElem?_zip_eq_some]; exact ⟨hje, hjp⟩
      have hnd : (((E.toList.zip ps).filter fun q => !seen.contains q.1.born).map fun q => q.1.born).Nodup := by
        refine List.Nodup.sublist (List.Sublist.map _ List.filter_sublist) ?_
        have : (E.toList.zip ps).map (fun q => q.1.born) = E.toList.map (·.born) := by
          rw [show (fun q : MapEntry × (Value × AV) => q.1.born) = (·.born) ∘ Prod.fst from rfl, ← List.map_map, List.map_fst_zip (by omega)]
        rw [this]; exact hM.stamps
      have hpd := perm_draw (f := fun q : MapEntry × (Value × AV) => q.1.born) hnd hmem
      rw [hL]
      refine List.Perm.trans ?_ hperm3
      rw [List.append_assoc]
      refine List.Perm.append_left d ?_
      have := (hpd.map (·.2)).symm
      simpa using this
    have hnewB : (((HL d seen2) ++ [Blk.box cells 256]).set id2 (.map (.arr 5) (mset (copyTo m2 d) (.agg C) p.2))).take (HL d seen2).length = HL (d ++ [p]) seen2 := by
      rw [List.set_append_left _ _ (by rw [hlHL]; omega), List.take_left' (by simp), hmset]
      simp only [HL]
      rw [List.set_append_left _ _ (by simp [hlHM]; omega), List.set_set]
    have hback := SRel.back (vars0 := V1) hs6' hs9 hevC hnonC (fun t v hv => by
        by_cases ht : t ∈ roundSlots
        · have ht2 : t ∈ copySlots := by
            simp only [roundSlots, List.mem_cons, List.not_mem_nil, or_false] at ht
            simp only [copySlots, List.mem_cons, List.not_mem_nil, or_false]
            omega
          have : get V1 t = get (dropAll V copySlots) t := get_set_other _ _ _ _ (fun e => by subst e; revert ht; decide)
          rw [this, get_dropAll, if_pos ht2] at hv; cases hv
        · rw [hV3 t ht]
          by_cases h65 : t = 65
          · subst h65
            have : get V1 65 = get (dropAll V copySlots) 65 := get_set_other _ _ _ _ (by decide)
            rw [this, get_dropAll, if_pos (by decide)] at hv; cases hv
          · rw [get_set_other _ _ _ _ (Ne.symm h65)]; exact hv) (fun id hlt => by
        by_cases h2' : id2 = id
        · subst h2'
          right
          refine ⟨_, List.getElem?_set_self (by simp; omega), ?_⟩
          rw [hmset]
          show AV.unders (HL d seen2).length _
          exact hund ⟨HL d seen2, ι6, w6⟩ hevB (d ++ [p]) fun q hq => hpermE.mem_iff.1 (by simp only [List.mem_append] at hq ⊢; exact .inl hq)
        · left
          rw [List.getElem?_set_ne h2', List.getElem?_append_left hlt])
    rw [hnewB] at hback
    have hevF : Ev ⟨H, ι0, w0⟩ ⟨HL (d ++ [p]) seen2, cutι ι9 (HL d seen2).length, w9⟩ := by
      have := hevC.cut (S := ⟨HL d seen2, ι6, w6⟩); simp only [hnewB] at this; exact hevB.trans this
    have hnonF : Non ⟨H, ι0, w0⟩ ⟨HL (d ++ [p]) seen2, cutι ι9 (HL d seen2).length, w9⟩ := by
      have := hnonC.cut (S := ⟨HL d seen2, ι6, w6⟩); simp only [hnewB] at this; exact hnonB.trans hevB this
    obtain ⟨_, _, _, _, _, _, hleft9⟩ := conc hback hevF
    refine ⟨⟨_, seen2, d ++ [p], hback, hevF, hnonF, hpermE⟩, ?_⟩
    rw [hleft9, hleft]
    exact leftOf_push he
end
end Go.Vm

namespace Go.Vm
open Go.Proofs
def isame (a b : Int) : Bool := match a, b with
 | .ofNat n, .ofNat m => Nat.beq n m
 | .negSucc n, .negSucc m => Nat.beq n m
 | _, _ => false
def ksame (a b : IntKind) : Bool := match a, b with
 | .i64, .i64 => true
 | .i32, .i32 => true
 | .u8, .u8 => true
 | _, _ => false
def bsame : List UInt8 → List UInt8 → Bool
 | [], [] => true
 | a :: l, b :: l' => Nat.beq a.toNat b.toNat && bsame l l'
 | _, _ => false
def vsame1 (v u : Value) : Bool := match v, u with
 | .int k a, .int l b => ksame k l && isame a b
 | .bool a, .bool b => a == b
 | .string a, .string b => bsame a.data.toList b.data.toList
 | .slice none a b, .slice none c d => Nat.beq a c && Nat.beq b d
 | .func (.func f) ⟨[]⟩ ⟨[]⟩, .func (.func g) ⟨[]⟩ ⟨[]⟩ => Nat.beq f g
 | _, _ => false
def vsames : List Value → List Value → Bool
 | [], [] => true
 | a :: l, b :: l' => vsame1 a b && vsames l l'
 | _, _ => false
def vsame (v u : Value) : Bool := match v, u with
 | .agg C, .agg D => vsames C.toList D.toList
 | v, u => vsame1 v u
def tsame (t u : Tail) : Bool := match t, u with
 | .unk, .unk => true
 | .full, .full => true
 | _, _ => false
mutual
def AV.same : AV → AV → Bool
 | .lit v, .lit u => vsame v u
 | .agg a, .agg b => AV.sames a b
 | .tup a, .tup b => AV.sames a b
 | .sl n a t, .sl m b u => Nat.beq n m && (tsame t u && AV.sames a b)
 | .mpx, .mpx => true
 | _, _ => false
def AV.sames : List AV → List AV → Bool
 | [], [] => true
 | a :: l, b :: l' => AV.same a b && AV.sames l l'
 | _, _ => false
end
theorem isame_eq {a b : Int} (h : isame a b = true) : a = b := by
 unfold isame at h
 split at h
 ·rw [Nat.eq_of_beq_eq_true h]
 ·rw [Nat.eq_of_beq_eq_true h]
 ·cases h
theorem ksame_eq {a b : IntKind} (h : ksame a b = true) : a = b := by
 cases a <;> cases b <;> first | rfl | cases h
theorem bsame_eq : ∀ {a b : List UInt8}, bsame a b = true → a = b
 | [], [], _ => rfl
 | [], _ :: _, h => by simp [bsame] at h
 | _ :: _, [], h => by simp [bsame] at h
 | a :: l, b :: l', h => by
  simp only [bsame, Bool.and_eq_true] at h
  rw [bsame_eq h.2, UInt8.toNat_inj.1 (Nat.eq_of_beq_eq_true h.1)]
theorem vsame1_eq {v u : Value} (h : vsame1 v u = true) : v = u := by
 unfold vsame1 at h
 split at h
 ·rw [Bool.and_eq_true] at h; rw [ksame_eq h.1, isame_eq h.2]
 ·rw [eq_of_beq h]
 ·rename_i a b
  have := bsame_eq h
  rcases a with ⟨⟨a⟩⟩
  rcases b with ⟨⟨b⟩⟩
  simp only at this
  rw [this]
 ·rw [Bool.and_eq_true] at h; rw [Nat.eq_of_beq_eq_true h.1, Nat.eq_of_beq_eq_true h.2]
 ·rw [Nat.eq_of_beq_eq_true h]
 ·cases h
theorem vsames_eq : ∀ {v u : List Value}, vsames v u = true → v = u
 | [], [], _ => rfl
 | [], _ :: _, h => by simp [vsames] at h
 | _ :: _, [], h => by simp [vsames] at h
 | a :: l, b :: l', h => by
  simp only [vsames, Bool.and_eq_true] at h
  rw [vsame1_eq h.1, vsames_eq h.2]
theorem vsame_eq {v u : Value} (h : vsame v u = true) : v = u := by
 unfold vsame at h
 split at h
 ·rename_i C D
  rw [show C = D from Array.toList_inj.1 (vsames_eq h)]
 ·exact vsame1_eq h
theorem tsame_eq {t u : Tail} (h : tsame t u = true) : t = u := by
 cases t <;> cases u <;> first | rfl | cases h
mutual
theorem AV.same_eq : ∀ (a b : AV), AV.same a b = true → a = b
  | .lit v, .lit u, h => by simp only [AV.same] at h; rw [vsame_eq h]
  | .agg a, .agg b, h => by simp only [AV.same] at h; rw [AV.sames_eq a b h]
  | .tup a, .tup b, h => by simp only [AV.same] at h; rw [AV.sames_eq a b h]
  | .sl n a t, .sl m b u, h => by
    simp only [AV.same, Bool.and_eq_true] at h
    rw [Nat.eq_of_beq_eq_true h.1, tsame_eq h.2.1, AV.sames_eq a b h.2.2]
  | .mpx, .mpx, _ => rfl
  | .lit _, b, h => by cases b <;> first | (rename_i v; exact congrArg AV.lit (vsame_eq (by simpa only [AV.same] using h))) | (simp [AV.same] at h)
  | .agg a, b, h => by cases b <;> first | (rename_i v; exact congrArg AV.agg (AV.sames_eq a v (by simpa only [AV.same] using h))) | (simp [AV.same] at h)
  | .tup a, b, h => by cases b <;> first | (rename_i v; exact congrArg AV.tup (AV.sames_eq a v (by simpa only [AV.same] using h))) | (simp [AV.same] at h)
  | .sl n a t, b, h => by
    cases b <;> first
      | (simp only [AV.same, Bool.and_eq_true] at h
         rw [Nat.eq_of_beq_eq_true h.1, tsame_eq h.2.1, AV.sames_eq a _ h.2.2])
      | (simp [AV.same] at h)
  | .mpx, b, h => by cases b <;> first | rfl | (simp [AV.same] at h)
  | .ptr _ _, b, h => by simp [AV.same] at h
  | .eptr _, b, h => by simp [AV.same] at h
  | .hsl _ _ _ _, b, h => by simp [AV.same] at h
  | .mp _, b, h => by simp [AV.same] at h
  | .fn _ _ _, b, h => by simp [AV.same] at h
  | .yld _, b, h => by simp [AV.same] at h
  | .iface _ _, b, h => by simp [AV.same] at h
  | .msl _ _ _ _, b, h => by simp [AV.same] at h
  | .mptr _ _ _, b, h => by simp [AV.same] at h
theorem AV.sames_eq : ∀ (a b : List AV), AV.sames a b = true → a = b
 | [], [], _ => rfl
 | [], _ :: _, h => by simp [AV.sames] at h
 | _ :: _, [], h => by simp [AV.sames] at h
 | a :: l, b :: l', h => by
  simp only [AV.sames, Bool.and_eq_true] at h
  rw [AV.same_eq a b h.1, AV.sames_eq l l' h.2]
end
noncomputable def ev (K : Know) (f : FuncId) (args : List AV) : CR := (evN Tryz.prog K 60).1 f args .nil 0
structure TopRow where
 f : FuncId
 args : List AV
 v : AV
noncomputable def toldRows (l : List TopRow) : CallT := fun f args t n =>
 List.rec (.fail "row") (fun r _ ih => bif Nat.beq r.f f && AV.sames (AV.forgets args) r.args then .ret r.v t n noLo else ih) l
def RowsRight (l : List TopRow) : Prop := ∀ r ∈ l, ∀ H, ACall Tryz.prog r.f r.args H (.ret r.v) H
theorem toldRows_right : ∀ {l : List TopRow}, RowsRight l → SoundC Tryz.prog (toldRows l)
 | [], _ => fun _ _ _ _ => trivial
 | r :: l, h => by
  intro f args t n
  show CRok Tryz.prog f args t n (bif Nat.beq r.f f && AV.sames (AV.forgets args) r.args then .ret r.v t n noLo else toldRows l f args t n)
  cases hb : Nat.beq r.f f && AV.sames (AV.forgets args) r.args with
  | false => exact toldRows_right (fun r' hr => h r' (by simp [hr])) f args t n
  | true =>
   rw [Bool.and_eq_true] at hb
   have e1 := Nat.eq_of_beq_eq_true hb.1
   have e2 := AV.sames_eq _ _ hb.2
   intro H hH
   refine ⟨H, hH, ?_, Keep.refl _ _⟩
   have := h r (by simp) H
   rw [e1, ← e2] at this
   exact this.forget_args
theorem mixed : Tryz.prog.follows .mixedOrders = true := by kernel_rfl
end Go.Vm

namespace Go.Vm
open Go.Proofs
def freezeRow (g : Nat → Option Blk) (id gen len sz : Nat) : AV :=
 match g id with
 | some (.mrow gen' cells) => bif Nat.beq gen' gen && Nat.ble (len * sz) cells.length then .sl len (AV.forgets (cells.take (len * sz))) .unk else .msl id gen len sz
 | _ => .msl id gen len sz
mutual
def AV.freeze (g : Nat → Option Blk) : AV → AV
 | .lit v => .lit v
 | .agg cells => .agg (AV.freezes g cells)
 | .tup vs => .tup (AV.freezes g vs)
 | .ptr id off => .ptr id off
 | .eptr cells => .eptr (AV.freezes g cells)
 | .sl len cells tail => .sl len (AV.freezes g cells) tail.forget
 | .hsl id off len cap => .hsl id off len cap
 | .mp _ => .mpx
 | .fn f first captured => .fn f (AV.freezes g first) (AV.freezes g captured)
 | .yld id => .yld id
 | .iface t v => .iface t (AV.freeze g v)
 | .msl id gen len sz => freezeRow g id gen len sz
 | .mptr id gen off => .mptr id gen off
 | .mpx => .mpx
def AV.freezes (g : Nat → Option Blk) : List AV → List AV
 | [] => []
 | a :: xs => AV.freeze g a :: AV.freezes g xs
end
theorem AV.freezes_length (g : Nat → Option Blk) : ∀ l : List AV, (AV.freezes g l).length = l.length
 | [] => rfl
 | a :: l => by simp [AV.freezes, AV.freezes_length g l]
theorem Tail.forget_rel [Outer] {S S' : Sit} {tail : Tail} {base : Option Addr} {len cap n m : Nat} (h : TailRel S tail base len cap n) : TailRel S' tail.forget base len cap m := by
 cases tail with
 | unk => trivial
 | full => exact h
 | own id g sz => trivial
theorem Fix.cut0 [Outer] {S : Sit} {b lim : Nat} (h : Fix S b lim) : Fix ⟨S.H.take 0, cutι S.ι 0, S.w⟩ b lim := by
 obtain ⟨C, t, f, h1, h2, _, h4⟩ := h
 exact ⟨C, t, f, h1, h2, fun id wm e => by simp [cutι] at e, h4⟩
section
variable [Outer] {S : Sit} {g : Nat → Option Blk}
mutual
theorem VRel.freeze (hR : Rel S) (hg : ∀ id B, g id = some B → S.H[id]? = some B) : ∀ (a : AV) (c : Value), VRel S a c → (a.freeze g).under 0 → VRel ⟨S.H.take 0, cutι S.ι 0, S.w⟩ (a.freeze g) c
 | .lit v, c, x, _ => by
  simp only [VRel, AV.freeze] at x ⊢
  exact x
 | .agg cells, c, x, hu => by
  simp only [VRel, AV.freeze, AV.under] at x hu ⊢
  obtain ⟨C, hc, hr⟩ := x
  exact ⟨C, hc, VRels.freeze hR hg cells _ hr hu⟩
 | .tup vs, c, x, hu => by
  simp only [VRel, AV.freeze, AV.under] at x hu ⊢
  obtain ⟨C, hc, hr⟩ := x
  exact ⟨C, hc, VRels.freeze hR hg vs _ hr hu⟩
 | .ptr id off, c, x, hu => by simp only [AV.freeze, AV.under] at hu; omega
 | .eptr cells, c, x, hu => by
  simp only [VRel, AV.freeze, AV.under] at x hu ⊢
  obtain ⟨b, o, hc, hf, hr⟩ := x
  rw [AV.freezes_length]
  exact ⟨b, o, hc, hf.cut0, VRow.freeze hR hg b cells o hr hu⟩
 | .sl len cells tail, c, x, hu => by
  simp only [VRel, AV.freeze, AV.under] at x hu ⊢
  obtain ⟨base, cap, hc, hle, hcells, ht⟩ := x
  rw [AV.freezes_length]
  refine ⟨base, cap, hc, hle, ?_, Tail.forget_rel ht⟩
  rcases hcells with hcells | ⟨b, o, hb', hf, hr⟩
  ·exact .inl (by rw [hcells]; rfl)
  ·exact .inr ⟨b, o, hb', hf.cut0, VRow.freeze hR hg b cells o hr hu.1⟩
 | .hsl id off len cap, c, x, hu => by simp only [AV.freeze, AV.under] at hu; omega
 | .mp id, c, x, _ => by
  simp only [VRel, AV.freeze] at x ⊢
  obtain ⟨b, wm, _, _, hc⟩ := x
  exact ⟨_, hc⟩
 | .fn f first captured, c, x, hu => by
  simp only [VRel, AV.freeze, AV.under] at x hu ⊢
  obtain ⟨F, C, hc, h1, h2⟩ := x
  exact ⟨F, C, hc, VRels.freeze hR hg first _ h1 hu.1, VRels.freeze hR hg captured _ h2 hu.2⟩
 | .yld id, c, x, hu => by simp only [AV.freeze, AV.under] at hu; omega
 | .iface t v, c, x, hu => by
  simp only [VRel, AV.freeze, AV.under] at x hu ⊢
  obtain ⟨y, hc, hr⟩ := x
  exact ⟨y, hc, VRel.freeze hR hg v y hr hu⟩
 | .msl id gen len sz, c, x, hu => by
  simp only [AV.freeze] at hu ⊢
  unfold freezeRow at hu ⊢
  split at hu
  ·rename_i gen' cells hgi
   cases hb : Nat.beq gen' gen && Nat.ble (len * sz) cells.length with
   | false =>
    rw [hb] at hu
    simp only [cond_false, AV.under] at hu
    omega
   | true =>
    rw [hb] at hu
    simp only [cond_true, AV.under] at hu ⊢
    rw [Bool.and_eq_true] at hb
    have e1 := Nat.eq_of_beq_eq_true hb.1
    have e2 := Nat.le_of_ble_eq_true hb.2
    subst e1
    simp only [VRel] at x ⊢
    obtain ⟨base, cap, hc, hle, hsr⟩ := x
    rcases hsr with ⟨b, rfl, B, g0, hB, hm, hle2, hk⟩ | ⟨rfl, rfl, _⟩
    case inr =>
     obtain rfl : len = 0 := by omega
     exact ⟨_, 0, hc, Nat.le_refl _, .inl (by simp [AV.forgets]), trivial⟩
    have hB' := hg _ _ hgi
    rw [hB'] at hB; cases hB
    simp only [Blk.mgen, Option.some.injEq] at hm
    obtain ⟨b', wm, C, t, hi, hC, hbb, hsz⟩ := hk hm.symm ⟨_, rfl⟩
    subst hbb
    obtain ⟨B, hB2, hrel⟩ := hR.blk id b' wm hi
    rw [hB'] at hB2; cases hB2
    obtain ⟨C', t', hC', hcells⟩ := hrel
    rw [hC] at hC'; cases hC'
    have hlc : (AV.forgets (cells.take (len * sz))).length = len * sz := by
     rw [AV.forgets_length, List.length_take]; omega
    have hsz2 : len * sz ≤ C.size := Nat.le_trans (Nat.mul_le_mul_right _ hle) hsz
    refine ⟨_, cap, hc, hle, .inr ⟨b', 0, rfl, ?_, ?_⟩, trivial⟩
    ·refine ⟨C, t, (0, 0), hC, by rw [hlc]; omega, fun id wm e => by simp [cutι] at e, fun y hy => ?_⟩
     exact absurd hi ((hR.out b' y hy).2 id wm)
    ·have h1 : VRels S cells (C.toList.take cells.length) := hcells
     have hlen : cells.length = (C.toList.take cells.length).length := VRels.length h1
     have h2 : VRels S (cells.take (len * sz)) ((C.toList.take cells.length).take (len * sz)) := VRels.take _ h1
     have h3 := VRels.cut (n := 0) _ _ hu.1 (VRels.forget _ _ h2)
     refine VRow.of_vals b' h3 fun i v hv => ?_
     rw [List.take_take, List.getElem?_take] at hv
     split at hv
     ·rw [cell_eq]
      show (match S.w.heap[b']? with | some (.cells c _ _) => c[0 + i]? | _ => none) = _
      rw [hC]
      simpa using hv
     ·cases hv
  ·rename_i hne
   simp only [AV.under] at hu
   omega
 | .mptr id gen off, c, x, hu => by simp only [AV.freeze, AV.under] at hu; omega
 | .mpx, c, x, _ => by
  simp only [VRel, AV.freeze] at x ⊢
  exact x
theorem VRels.freeze (hR : Rel S) (hg : ∀ id B, g id = some B → S.H[id]? = some B) : ∀ (xs : List AV) (cs : List Value), VRels S xs cs → AV.unders 0 (AV.freezes g xs) → VRels ⟨S.H.take 0, cutι S.ι 0, S.w⟩ (AV.freezes g xs) cs
 | [], [], _, _ => by simp [VRels, AV.freezes]
 | [], _ :: _, x, _ => by simp [VRels] at x
 | _ :: _, [], x, _ => by simp [VRels] at x
 | a :: xs, c :: cs, x, hu => by
  simp only [VRels, AV.freezes, AV.unders] at x hu ⊢
  exact ⟨VRel.freeze hR hg a c x.1 hu.1, VRels.freeze hR hg xs cs x.2 hu.2⟩
theorem VRow.freeze (hR : Rel S) (hg : ∀ id B, g id = some B → S.H[id]? = some B) (b : Nat) : ∀ (xs : List AV) (o : Nat), VRow S b o xs → AV.unders 0 (AV.freezes g xs) → VRow ⟨S.H.take 0, cutι S.ι 0, S.w⟩ b o (AV.freezes g xs)
 | [], o, _, _ => by simp [VRow, AV.freezes]
 | a :: xs, o, x, hu => by
  simp only [VRow, AV.freezes, AV.unders] at x hu ⊢
  obtain ⟨⟨c, hc, hr⟩, x2⟩ := x
  exact ⟨⟨c, hc, VRel.freeze hR hg a c hr hu.1⟩, VRow.freeze hR hg b xs (o + 1) x2 hu.2⟩
end
end
theorem ACall.freeze0 {P : Program} {f : FuncId} {args : List AV} {H' : List Blk} {v : AV} {g : Nat → Option Blk} (h : ACall P f args [] (.ret v) H') (hg : ∀ id B, g id = some B → H'[id]? = some B)
  (ha : AV.unders 0 args) (hr : (v.freeze g).under 0) (H : List Blk) : ACall P f args H (.ret (v.freeze g)) H := by
 have h1 : ACall P f args [] (.ret (v.freeze g)) [] := by
  intro O ι w cs hR hargs
  refine (h O ι w cs hR hargs).mono ?_
  rintro e w' ⟨ι', hend, hR', hev, hnon⟩
  cases e with
  | panicked chain => exact hend.elim
  | outgrown => exact hend.elim
  | returned c =>
   have hev2 := hev.cut
   have hnon2 := hnon.cut
   refine ⟨cutι ι' 0, VRel.freeze hR' hg v c hend hr, ⟨fun id b wm e => by simp [cutι] at e, fun i j b wm wm' ei _ => by simp [cutι] at ei, fun b x e => ⟨(hR'.out b x e).1, fun i wm h => by simp [cutι] at h⟩, hR'.tab⟩, hev2, hnon2⟩
 exact ACall.frame_nil (r := .ret (v.freeze g)) h1 ha hr H
theorem ACall.freeze {P : Program} {f : FuncId} {args : List AV} {H' : List Blk} {v : AV} {g : Nat → Option Blk} (h : ACall P f (AV.forgets args) [] (.ret v) H') (hg : ∀ id B, g id = some B → H'[id]? = some B)
  (ha : AV.unders 0 (AV.forgets args)) (hr : (v.freeze g).under 0) (H : List Blk) : ACall P f args H (.ret (v.freeze g)) H :=
 (h.freeze0 hg ha hr H).forget_args
noncomputable def topB (K : Know) (f : FuncId) (args : List AV) (v : AV) : Bool :=
 AV.undersB 0 (AV.forgets args) && (AV.underB 0 v && match ev K f (AV.forgets args) with
  | .ret v' t _ _ => AV.same (AV.freeze (get t) v') v
  | _ => false)
theorem top_right {K : Know} (hm : Tryz.prog.follows .mixedOrders = true) (hK : K.Right Tryz.prog) {f : FuncId} {args : List AV} {v : AV} (h : topB K f args v = true) (H : List Blk) : ACall Tryz.prog f args H (.ret v) H := by
 unfold topB at h
 rw [Bool.and_eq_true, Bool.and_eq_true] at h
 obtain ⟨h1, h2, h3⟩ := h
 have hs := (evN_sound hm hK 60).1 f (AV.forgets args) .nil 0
 unfold ev at h3
 generalize (evN Tryz.prog K 60).1 f (AV.forgets args) .nil 0 = r at hs h3
 cases r with
 | fail w => cases h3
 | pan => cases h3
 | ret v' t n lo =>
  simp only at h3
  have := AV.same_eq _ _ h3
  subst this
  obtain ⟨H', hH', hc, _⟩ := hs [] HT.nil
  exact hc.freeze hH'.blk (underB_iff.2 _ h1) (underB_iff.1 _ h2) H
end Go.Vm

namespace Go.Vm
open Go.Proofs
inductive If (p X Y : Prop) : Prop
 | mk (h1 : p → X) (h2 : ¬ p → Y)
inductive Side (p X Y : Prop) : Prop
 | mk (h : p) (k : X)
 | wr (k : Y)
inductive Ex {α : Type} (x : Option α) (K : α → Prop) : Prop
 | mk (r : α) (h : x = some r) (k : K r)
inductive CallG (P : Program) (f : FuncId) (args : List AV) (t : Trie Blk) (n : Nat) (K Kp : AV → Trie Blk → Nat → Nat → Prop) : Prop
 | mk (h : ∀ H, HT t n H → (∃ v t' n' l H', HT t' n' H' ∧ ACall P f args H (.ret v) H' ∧ Keep H H' l ∧ K v t' n' l) ∨ ∃ v t' n' l H', HT t' n' H' ∧ ACall P f args H (.pan v) H' ∧ Keep H H' l ∧ Kp v t' n' l)
theorem CallG.ret {P : Program} {f : FuncId} {args : List AV} {t : Trie Blk} {n : Nat} {K Kp : AV → Trie Blk → Nat → Nat → Prop} (h : ∀ H, HT t n H → ∃ v t' n' l H', HT t' n' H' ∧ ACall P f args H (.ret v) H' ∧ Keep H H' l ∧ K v t' n' l) : CallG P f args t n K Kp :=
 ⟨fun H hH => .inl (h H hH)⟩
inductive RoundG (P : Program) (id : Nat) (args : List AV) (t : Trie Blk) (n : Nat) (K : AV → Trie Blk → Nat → Nat → Prop) : Prop
 | mk (h : ∀ H, HT t n H → ∃ v t' n' l H', HT t' n' H' ∧ ARound P id args H (.ret v) H' ∧ Keep H H' l ∧ K v t' n' l)
abbrev PanK := AV → Trie AV → Trie Blk → Nat → Nat → Prop
noncomputable section
def NowR {α : Type} (x : Option α) (K : α → Prop) : Prop := Option.rec False (fun r => K r) x
theorem NowR.ex {α : Type} {x : Option α} {K : α → Prop} (h : NowR x K) : ∃ r, x = some r ∧ K r := by
 cases x with
 | none => exact h.elim
 | some r => exact ⟨r, rfl, h⟩
def fitsK (k : IntKind) (n : Int) : Prop := k.wrap n = n
def gInt (op : BinOp) (k : IntKind) (a b : Int) (K : AV → Prop) : Prop := match op with
 | .add => Side (fitsK k (a + b)) (K (.lit (.int k (a + b)))) (K (.lit (.int k (k.wrap (a + b)))))
 | .sub => Side (fitsK k (a - b)) (K (.lit (.int k (a - b)))) (K (.lit (.int k (k.wrap (a - b)))))
 | .mul => Side (fitsK k (a * b)) (K (.lit (.int k (a * b)))) (K (.lit (.int k (k.wrap (a * b)))))
 | .eql => If (a = b) (K (.lit (.bool true))) (K (.lit (.bool false)))
 | .neq => If (a = b) (K (.lit (.bool false))) (K (.lit (.bool true)))
 | .lss => If (a < b) (K (.lit (.bool true))) (K (.lit (.bool false)))
 | .leq => If (a ≤ b) (K (.lit (.bool true))) (K (.lit (.bool false)))
 | .gtr => If (b < a) (K (.lit (.bool true))) (K (.lit (.bool false)))
 | .geq => If (b ≤ a) (K (.lit (.bool true))) (K (.lit (.bool false)))
 | _ => NowR (binInt op k a b) fun v => K (.lit v)
theorem gInt_ex {op : BinOp} {k : IntKind} {a b : Int} {K : AV → Prop} (h : gInt op k a b K) : ∃ v, binInt op k a b = some v ∧ K (.lit v) := by
 unfold gInt at h
 have dec : ∀ (p : Prop) [Decidable p] (X Y : Prop), If p X Y → (p ∧ X) ∨ (¬ p ∧ Y) := fun p _ X Y h => by
  obtain ⟨h1, h2⟩ := h
  by_cases hp : p
  ·exact .inl ⟨hp, h1 hp⟩
  ·exact .inr ⟨hp, h2 hp⟩
 split at h
 ·rcases h with ⟨h1, h2⟩ | h3
  ·exact ⟨_, rfl, by show K (.lit (.int k (k.wrap (a + b)))); rw [h1]; exact h2⟩
  ·exact ⟨_, rfl, h3⟩
 ·rcases h with ⟨h1, h2⟩ | h3
  ·exact ⟨_, rfl, by show K (.lit (.int k (k.wrap (a - b)))); rw [h1]; exact h2⟩
  ·exact ⟨_, rfl, h3⟩
 ·rcases h with ⟨h1, h2⟩ | h3
  ·exact ⟨_, rfl, by show K (.lit (.int k (k.wrap (a * b)))); rw [h1]; exact h2⟩
  ·exact ⟨_, rfl, h3⟩
 ·rcases dec _ _ _ h with ⟨hp, hx⟩ | ⟨hp, hx⟩
  ·exact ⟨_, rfl, by simpa [hp] using hx⟩
  ·exact ⟨_, rfl, by show K (.lit (.bool (a == b))); rw [beq_false_of_ne hp]; exact hx⟩
 ·rcases dec _ _ _ h with ⟨hp, hx⟩ | ⟨hp, hx⟩
  ·exact ⟨_, rfl, by simpa [hp] using hx⟩
  ·exact ⟨_, rfl, by show K (.lit (.bool (!(a == b)))); rw [beq_false_of_ne hp]; exact hx⟩
 ·rcases dec _ _ _ h with ⟨hp, hx⟩ | ⟨hp, hx⟩
  ·exact ⟨_, rfl, by simpa [hp] using hx⟩
  ·exact ⟨_, rfl, by simpa [hp] using hx⟩
 ·rcases dec _ _ _ h with ⟨hp, hx⟩ | ⟨hp, hx⟩
  ·exact ⟨_, rfl, by simpa [hp] using hx⟩
  ·exact ⟨_, rfl, by simpa [hp] using hx⟩
 ·rcases dec _ _ _ h with ⟨hp, hx⟩ | ⟨hp, hx⟩
  ·exact ⟨_, rfl, by simpa [hp] using hx⟩
  ·exact ⟨_, rfl, by simpa [hp] using hx⟩
 ·rcases dec _ _ _ h with ⟨hp, hx⟩ | ⟨hp, hx⟩
  ·exact ⟨_, rfl, by simpa [hp] using hx⟩
  ·exact ⟨_, rfl, by simpa [hp] using hx⟩
 ·exact h.ex
def avInt (a : AV) : Option (IntKind × Int) := match a with
 | .lit (.int k n) => some (k, n)
 | _ => none
def ksameB (a b : IntKind) : Bool := match a, b with
 | .i64, .i64 => true
 | .i32, .i32 => true
 | .u8, .u8 => true
 | _, _ => false
def isShift (op : BinOp) : Bool := match op with
 | .shl => true
 | .shr => true
 | _ => false
def gBin (P : Program) (op : BinOp) (t : TypeId) (x y : AV) (K : AV → Prop) : Prop :=
 match avInt x, avInt y with
 | some (k, a), some (k', b) => bif ksameB k k' && !isShift op then gInt op k a b K else NowR (binB P op t x y) K
 | _, _ => NowR (binB P op t x y) K
theorem ksameB_eq {a b : IntKind} (h : ksameB a b = true) : a = b := by
 cases a <;> cases b <;> first | rfl | cases h
theorem avInt_eq {a : AV} {k : IntKind} {n : Int} (h : avInt a = some (k, n)) : a = .lit (.int k n) := by
 unfold avInt at h
 split at h
 ·cases h; rfl
 ·cases h
theorem gBin_ex {P : Program} {op : BinOp} {t : TypeId} {x y : AV} {K : AV → Prop} (h : gBin P op t x y K) : ∃ v, binB P op t x y = some v ∧ K v := by
 unfold gBin at h
 split at h
 ·rename_i k a k' b hx hy
  cases hb : ksameB k k' && !isShift op with
  | false => rw [hb, cond_false] at h; exact h.ex
  | true =>
   rw [hb, cond_true] at h
   rw [Bool.and_eq_true] at hb
   have e1 := ksameB_eq hb.1
   subst e1
   have e2 := avInt_eq hx
   have e3 := avInt_eq hy
   subst e2 e3
   obtain ⟨v, hv, hk⟩ := gInt_ex h
   refine ⟨.lit v, ?_, hk⟩
   unfold binB binA
   have : binLit P op t (.int k a) (.int k b) = some v := by
    unfold binLit
    cases op <;> first | (simp [isShift] at hb; done) | (simp only [if_true]; exact hv)
   simp only [this, Option.map_some]
 ·exact h.ex
abbrev GArm := Program → Bool → (Nat → Option Blk) → Nat → (Operand → Option AV) → Oper → (DR → Prop) → Prop
def gNow : GArm := fun P m g n ρ o K => NowR (aopF P m g n ρ o) K
def gEx : GArm := fun P m g n ρ o K => Ex (aopF P m g n ρ o) K
def gLoad : TypeId → Operand → GArm := fun t x P m g n ρ o K => match ρ x with
 | some (.eptr cells) => Ex (loadA P t cells) fun v => K (.val v .same)
 | some (.mptr id gen off) => Ex (loadT P g t (.mptr id gen off)) fun v => K (.val v .same)
 | _ => gNow P m g n ρ o K
def gStoreM : TypeId → Operand → Operand → GArm := fun _ x _ P m g n ρ o K => match ρ x with
 | some (.mptr _ _ _) => gEx P m g n ρ o K
 | _ => gNow P m g n ρ o K
def gBinOp : BinOp → TypeId → Operand → Operand → TypeId → GArm := fun op t x y _ P _ _ _ ρ _ K => match ρ x, ρ y with
 | some a, some b => gBin P op t a b fun v => K (.val v .same)
 | _, _ => False
def gIndexAddr : TypeId → Operand → Operand → GArm := fun t x i P m g n ρ o K => match ρ x, ρ i with
 | some (.sl len cells tl), some b => Ex (indexOp P t (.sl len cells tl) b) fun v => K (.val v .same)
 | some (.msl id gen len sz), some b => Ex (indexOp P t (.msl id gen len sz) b) fun v => K (.val v .same)
 | _, _ => gNow P m g n ρ o K
def isBuilt (c : Callee) : Bool := match c with
 | .builtin .append => true
 | .builtin .max => true
 | .builtin .min => true
 | _ => false
def gCall : Call → GArm := fun c P m g n ρ o K => bif isBuilt c.callee then gEx P m g n ρ o K else gNow P m g n ρ o K
def gArms (op : Op) : GArm :=
 Op.rec (motive := fun _ => GArm) (fun _ => gNow) (fun _ => gNow) (fun _ _ _ => gNow) (fun _ => gNow) (fun _ _ => gNow) (fun _ _ => gNow) (fun _ _ _ => gNow) (fun _ _ _ _ => gEx) gLoad gStoreM (fun _ => gNow) (fun _ => gNow) (fun _ => gNow) gBinOp (fun _ _ _ => gNow)
  (fun _ _ _ => gNow) (fun _ _ => gNow) (fun _ _ => gNow) (fun _ _ _ => gNow) (fun _ _ => gNow) (fun _ _ => gNow) (fun _ _ _ => gNow) (fun _ _ _ _ _ => gEx) (fun _ _ _ => gNow) (fun _ _ _ => gNow) gIndexAddr (fun _ _ _ => gEx) (fun _ _ _ _ => gEx) (fun _ _ _ _ => gEx)
  (fun _ _ _ => gNow) (fun _ _ _ _ => gNow) (fun _ _ => gNow) (fun _ _ => gNow) (fun _ => gNow) (fun _ _ _ _ => gNow) (fun _ _ => gNow) gCall (fun _ => gNow) (fun _ => gNow) (fun _ => gNow) (fun _ _ => gNow) (fun _ _ _ => gNow) (fun _ _ => gNow) op
def gAop : GArm := fun P m g n ρ o K => gArms o.op P m g n ρ o K
theorem Ex.ex {α : Type} {x : Option α} {K : α → Prop} (h : Ex x K) : ∃ r, x = some r ∧ K r := by
 obtain ⟨r, h, k⟩ := h
 exact ⟨r, h, k⟩
theorem gAop_ex {P : Program} {m : Bool} {g : Nat → Option Blk} {n : Nat} {ρ : Operand → Option AV} {o : Oper} {K : DR → Prop} (h : gAop P m g n ρ o K) : ∃ r, aopT P m g n ρ o = some r ∧ K r := by
 rw [← aopF_fun]
 obtain ⟨dst, op, ty, pos, after, guard⟩ := o
 unfold gAop at h
 cases op with
 | load t x =>
  have h' : gLoad t x P m g n ρ ⟨dst, .load t x, ty, pos, after, guard⟩ K := h
  unfold gLoad at h'
  split at h'
  ·rename_i cells hx
   obtain ⟨v, hv, hk⟩ := h'.ex
   refine ⟨_, ?_, hk⟩
   show sameR (onAV (fun a => loadT P g t a) (ρ x)) = _
   rw [hx]
   show sameR (loadA P t cells) = _
   rw [hv]; rfl
  ·rename_i id gen off hx
   obtain ⟨v, hv, hk⟩ := h'.ex
   refine ⟨_, ?_, hk⟩
   show sameR (onAV (fun a => loadT P g t a) (ρ x)) = _
   rw [hx]
   show sameR (loadT P g t (.mptr id gen off)) = _
   rw [hv]; rfl
  ·exact NowR.ex h'
 | store t x y =>
  have h' : gStoreM t x y P m g n ρ ⟨dst, .store t x y, ty, pos, after, guard⟩ K := h
  unfold gStoreM at h'
  split at h'
  ·exact Ex.ex h'
  ·exact NowR.ex h'
 | binOp op t x y z =>
  have h' : gBinOp op t x y z P m g n ρ ⟨dst, .binOp op t x y z, ty, pos, after, guard⟩ K := h
  unfold gBinOp at h'
  split at h'
  ·rename_i a b hx hy
   obtain ⟨v, hv, hk⟩ := gBin_ex h'
   refine ⟨_, ?_, hk⟩
   show sameR (onAV (fun a => onAV (fun b => binB P op t a b) (ρ y)) (ρ x)) = _
   rw [hx, hy]
   show sameR (binB P op t a b) = _
   rw [hv]; rfl
  ·exact h'.elim
 | indexAddr t x i =>
  have h' : gIndexAddr t x i P m g n ρ ⟨dst, .indexAddr t x i, ty, pos, after, guard⟩ K := h
  unfold gIndexAddr at h'
  split at h'
  ·rename_i len cells tl b hx hy
   obtain ⟨v, hv, hk⟩ := h'.ex
   refine ⟨_, ?_, hk⟩
   show sameR (onAV (fun a => onAV (fun b => indexOp P t a b) (ρ i)) (ρ x)) = _
   rw [hx, hy]
   show sameR (indexOp P t (.sl len cells tl) b) = _
   rw [hv]; rfl
  ·rename_i id gen len sz b hx hy
   obtain ⟨v, hv, hk⟩ := h'.ex
   refine ⟨_, ?_, hk⟩
   show sameR (onAV (fun a => onAV (fun b => indexOp P t a b) (ρ i)) (ρ x)) = _
   rw [hx, hy]
   show sameR (indexOp P t (.msl id gen len sz) b) = _
   rw [hv]; rfl
  ·exact NowR.ex h'
 | call c =>
  have h' : gCall c P m g n ρ ⟨dst, .call c, ty, pos, after, guard⟩ K := h
  unfold gCall at h'
  cases hb : isBuilt c.callee with
  | true => rw [hb] at h'; exact Ex.ex h'
  | false => rw [hb] at h'; exact NowR.ex h'
 | slice t x lo hi mx => exact Ex.ex h
 | index t x i => exact Ex.ex h
 | lookup t x k b => exact Ex.ex h
 | mapUpdate t x k y => exact Ex.ex h
 | insert t x k y => exact Ex.ex h
 | _ => exact NowR.ex h
def gOp (P : Program) (m : Bool) (k : Nat) (ops : Array Oper) (o : Oper) (vars : Trie AV) (t : Trie Blk) (n lo : Nat) (Kp : PanK) (K : Trie AV → Trie Blk → Nat → Nat → Prop) : Prop :=
 match wantF ops vars o with
 | none => False
 | some false => putT k False o.dst (.lit undef) vars fun vars' => K vars' t n lo
 | some true => gAop P m (get t) n (evalT vars) o fun r => match r with
  | .val v .same => putT k False o.dst v vars fun vars' => K vars' t n lo
  | .val v (.push B) => putT k False o.dst v vars fun vars' => K vars' (set t n B) (Nat.add n 1) lo
  | .val v (.set id B) => putT k False o.dst v vars fun vars' => lowT lo id fun lo' => K vars' (set t id B) n lo'
  | .call f args => bif callable P f then CallG P f args t n (fun v t' n' l => putT k False o.dst v vars fun vars' => lowT lo l fun lo' => K vars' t' n' lo') (fun v t' n' l => lowT lo l fun lo' => Kp v vars t' n' lo') else False
  | .pan v => Kp v vars t n lo
  | .round id args => RoundG P id args t n (fun v t' n' l => putT k False o.dst v vars fun vars' => lowT lo l fun lo' => K vars' t' n' lo')
theorem gOp_spec {P : Program} {m : Bool} {k : Nat} {d : List Nat} {ops : Array Oper} {o : Oper} {vars : Trie AV} {t : Trie Blk} {n lo : Nat} {Kp : PanK} {K : Trie AV → Trie Blk → Nat → Nat → Prop} {H : List Blk} (hH : HT t n H) (h : gOp P m k ops o vars t n lo Kp K) :
  (∃ vars' t' n' lo' H', HT t' n' H' ∧ Keep H H' lo' ∧ lo' ≤ lo ∧ One P m ops o ⟨k, vars, H, d⟩ ⟨k, vars', H', d⟩ ∧ K vars' t' n' lo') ∨
   ∃ v t' n' lo' H', HT t' n' H' ∧ Keep H H' lo' ∧ lo' ≤ lo ∧ (∀ i, ops[i]? = some o → PanOne P ops i ⟨k, vars, H, d⟩ v ⟨k, vars, H', d⟩) ∧ Kp v vars t' n' lo' := by
 unfold gOp at h
 rw [wantF_fun] at h
 have put : ∀ {v : AV} {c : Trie AV → Prop}, putT k False o.dst v vars c → ∃ vars', (∀ H' : List Blk, ∀ H0 d0, putA ⟨k, vars, H0, d0⟩ o.dst v H' = some ⟨k, vars', H', d0⟩) ∧ c vars' := by
  intro v c hp
  unfold putT at hp
  split at hp
  ·rename_i hd; exact ⟨vars, fun H' H0 d0 => by rw [hd]; rfl, hp⟩
  ·rename_i s hd
   cases hb : Nat.blt s k with
   | false => rw [hb] at hp; exact hp.elim
   | true =>
    rw [hb] at hp
    exact ⟨set vars s v, fun H' H0 d0 => by rw [hd]; exact putA_some (σ := ⟨k, vars, H0, d0⟩) (Nat.le_of_ble_eq_true hb), hp⟩
 have low : ∀ {id : Nat} {c : Nat → Prop}, lowT lo id c → ∃ l, l ≤ lo ∧ l ≤ id ∧ c l := by
  intro id c hp
  unfold lowT at hp
  cases hb : Nat.ble lo id with
  | true => rw [hb] at hp; exact ⟨lo, Nat.le_refl _, Nat.le_of_ble_eq_true hb, hp⟩
  | false =>
   rw [hb] at hp
   refine ⟨id, ?_, Nat.le_refl _, hp⟩
   rcases Nat.lt_or_ge id lo with h | h
   ·omega
   ·rw [Nat.ble_eq_true_of_le h] at hb; cases hb
 cases hw : wantedA ops vars o with
 | none => rw [hw] at h; exact h.elim
 | some b =>
 rw [hw] at h
 cases b with
 | false =>
  obtain ⟨vars', hp, hk⟩ := put h
  exact .inl ⟨vars', t, n, lo, H, hH, Keep.refl _ _, Nat.le_refl _, .skip hw (hp H H d), hk⟩
 | true =>
 obtain ⟨r, ha, hk⟩ := gAop_ex h
 obtain ⟨ha', hokD⟩ := aopT_sound (H := H) hH.blk hH.len ha
 rw [evalT_eq k vars H d] at ha'
 cases r with
 | val v dl =>
  cases dl with
  | same =>
   obtain ⟨vars', hp, hk⟩ := put hk
   exact .inl ⟨vars', t, n, lo, H, hH, Keep.refl _ _, Nat.le_refl _, .does hw ha' (.inl rfl) (fun _ h => h) (hp H H d), hk⟩
  | push B =>
   obtain ⟨vars', hp, hk⟩ := put hk
   exact .inl ⟨vars', _, _, lo, H ++ [B], hH.push B, Keep.append _ _ _, Nat.le_refl _, .does hw ha' (.inl rfl) (keepsD_append _ _) (hp _ H d), hk⟩
  | set id B =>
   obtain ⟨vars', hp, hk⟩ := put hk
   obtain ⟨l, h1, h2, hk⟩ := low hk
   obtain ⟨B0, hB0, hd0, _⟩ := hokD
   have hlt : id < n := by rw [← hH.len]; exact (List.getElem?_eq_some_iff.1 hB0).1
   have hkp : Keep H (H.set id B) id := Keep.set hB0 hd0
   exact .inl ⟨vars', _, _, l, H.set id B, hH.set hlt B, hkp.mono h2, h1, .does hw ha' (.inl rfl) hkp.marks (hp _ H d), hk⟩
 | call f args =>
  simp only at hk
  cases hcal : callable P f with
  | false => rw [hcal] at hk; exact hk.elim
  | true =>
  rw [hcal, cond_true] at hk
  obtain ⟨hk⟩ := hk
  rcases hk H hH with ⟨v, t', n', l, H', hH', hcall, hkp, hk⟩ | ⟨v, t', n', l, H', hH', hcall, hkp, hk⟩
  ·obtain ⟨vars', hp, hk⟩ := put hk
   obtain ⟨lo', h1, h2, hk⟩ := low hk
   exact .inl ⟨vars', _, _, lo', H', hH', hkp.mono h2, h1, .does hw ha' (.inr (.inl ⟨f, args, rfl, hcal, hcall⟩)) hkp.marks (hp _ H d), hk⟩
  ·obtain ⟨lo', h1, h2, hk⟩ := low hk
   exact .inr ⟨v, _, _, lo', H', hH', hkp.mono h2, h1, fun i ho => .call ho hw ha' hcal hcall hkp.marks, hk⟩
 | round id args =>
  obtain ⟨hk⟩ := hk
  obtain ⟨v, t', n', l, H', hH', hround, hkp, hk⟩ := hk H hH
  obtain ⟨vars', hp, hk⟩ := put hk
  obtain ⟨lo', h1, h2, hk⟩ := low hk
  exact .inl ⟨vars', _, _, lo', H', hH', hkp.mono h2, h1, .does hw ha' (.inr (.inr ⟨id, args, rfl, hround⟩)) hkp.marks (hp _ H d), hk⟩
 | pan v => exact .inr ⟨v, t, n, lo, H, hH, Keep.refl _ _, Nat.le_refl _, fun i ho => .op ho hw ha', hk⟩
def gOps (P : Program) (m : Bool) (k : Nat) (ops : Array Oper) (Kp : PanK) (l : List Oper) : Trie AV → Trie Blk → Nat → Nat → (Trie AV → Trie Blk → Nat → Nat → Prop) → Prop :=
 List.rec (fun vars t n lo K => K vars t n lo) (fun o _ ih vars t n lo K => gOp P m k ops o vars t n lo Kp fun vars' t' n' lo' => ih vars' t' n' lo' K) l
theorem gOps_spec {P : Program} {m : Bool} {k : Nat} {d : List Nat} {ops : Array Oper} {Kp : PanK} {K : Trie AV → Trie Blk → Nat → Nat → Prop} {H0 : List Blk} : ∀ (l : List Oper) (i : Nat), (∀ j, l[j]? = ops[i + j]?) → ∀ vars t n lo H, HT t n H → Keep H0 H lo → gOps P m k ops Kp l vars t n lo K →
  (∃ vars' t' n' lo' H', HT t' n' H' ∧ Keep H0 H' lo' ∧ APath P ops (List.range' i l.length) ⟨k, vars, H, d⟩ ⟨k, vars', H', d⟩ ∧ K vars' t' n' lo') ∨
   ∃ v vars' t' n' lo' H', HT t' n' H' ∧ Keep H0 H' lo' ∧ APanics P ops (List.range' i l.length) ⟨k, vars, H, d⟩ v ⟨k, vars', H', d⟩ ∧ Kp v vars' t' n' lo'
 | [], _, _, vars, t, n, lo, H, hH, hk, h => .inl ⟨vars, t, n, lo, H, hH, hk, .nil, h⟩
 | o :: l, i, hl, vars, t, n, lo, H, hH, hk, h => by
  have ho : ops[i]? = some o := by have := hl 0; simpa using this.symm
  have hl' : ∀ j, l[j]? = ops[i + 1 + j]? := fun j => by have := hl (j + 1); simpa [Nat.add_assoc, Nat.add_comm 1 j] using this
  have h' : gOp P m k ops o vars t n lo Kp (fun vars' t' n' lo' => gOps P m k ops Kp l vars' t' n' lo' K) := h
  rcases gOp_spec (d := d) hH h' with ⟨vars1, t1, n1, lo1, H1, hH1, hk1, hlo, h1, hK⟩ | ⟨v, t1, n1, lo1, H1, hH1, hk1, hlo, h1, hK⟩
  ·rcases gOps_spec l (i + 1) hl' vars1 t1 n1 lo1 H1 hH1 (hk.trans hk1 hlo (Nat.le_refl _)) hK with ⟨vars2, t2, n2, lo2, H2, hH2, hk2, h2, hK2⟩ | ⟨v, vars2, t2, n2, lo2, H2, hH2, hk2, h2, hK2⟩
   ·exact .inl ⟨vars2, t2, n2, lo2, H2, hH2, hk2, .cons (h1.step ho) h2, hK2⟩
   ·exact .inr ⟨v, vars2, t2, n2, lo2, H2, hH2, hk2, .cons (h1.step ho) h2, hK2⟩
  ·exact .inr ⟨v, vars, t1, n1, lo1, H1, hH1, hk.trans hk1 hlo (Nat.le_refl _), (h1 i ho).all, hK⟩
end
end Go.Vm

namespace Go.Vm
open Go.Proofs
inductive PickW (K : List Nat → Prop) : Prop
 | mk (W : List Nat) (k : K W)
noncomputable section
def isAppend (o : Oper) : Bool := match o.op with
 | .call c => match c.callee with
  | .builtin .append => true
  | _ => false
 | _ => false
abbrev SegK := Nat → Trie Blk → Nat → Trie AV → Trie Blk → Nat → Nat → (Trie AV → Trie Blk → Nat → Nat → Prop) → Prop
def gEff (P : Program) (m : Bool) (k : Nat) (ops : Array Oper) (o : Oper) (vars : Trie AV) (t : Trie Blk) (n lo : Nat) (go : Trie AV → Trie Blk → Nat → Nat → Prop) : Prop :=
 bif isAppend o then match wantF ops vars o with
  | none => False
  | some false => putT k False o.dst (.lit undef) vars fun vars' => go vars' t n lo
  | some true => gAop P m (get t) n (evalT vars) o fun r => match r with
   | .val v (.set id (.row g)) => putT k False o.dst v vars fun vars' => lowT lo id fun lo' => go vars' (set t id (.row g)) n lo'
   | .val v (.push B) => putT k False o.dst v vars fun vars' => go vars' (set t n B) (Nat.add n 1) lo
   | .val v .same => putT k False o.dst v vars fun vars' => go vars' t n lo
   | _ => False
 else gOp P m k ops o vars t n noLo (fun _ _ _ _ _ => False) fun vars' t' n' l1 => bif Nat.ble n l1 then go vars' t' n' lo else False
def gPlain (P : Program) (m : Bool) (k : Nat) (ops : Array Oper) (W : List Nat) (o : Oper) (tb : Trie Blk) (nb : Nat) (vars : Trie AV) (go : Trie AV → Prop) : Prop := match wantF ops vars o with
 | none => False
 | some false => putT k False o.dst (.lit undef) vars go
 | some true => gAop P m (hideT (some W) tb) nb (evalT vars) o fun r => match r with
  | .val v .same => putT k False o.dst v vars go
  | _ => False
def gLay (P : Program) (k : Nat) (ops : Array Oper) (o : Oper) (id : Nat) (vars : Trie AV) (go : Trie AV → Prop) : Prop := match wantF ops vars o with
 | none => False
 | some false => putT k False o.dst (.lit undef) vars go
 | some true => match layB P o with
  | some _ => putT k False o.dst (layV o id) vars go
  | none => False
def gStore (P : Program) (m : Bool) (k : Nat) (ops : Array Oper) (W : List Nat) (o : Oper) (vars : Trie AV) (t : Trie Blk) (n lo : Nat) (go : Trie AV → Trie Blk → Nat → Nat → Prop) : Prop := match wantF ops vars o with
 | some true => gAop P m (get t) n (evalT vars) o fun r => match r with
  | .val v (.set id B) => bif memN W id then putT k False o.dst v vars fun vars' => lowT lo id fun lo' => go vars' (set t id B) n lo' else False
  | _ => False
 | _ => False
def gSeg (P : Program) (m : Bool) (k : Nat) (ops : Array Oper) (mask n0 : Nat) (W : List Nat) (Kp : PanK) (l : List Oper) : SegK :=
 List.rec (fun _ _ _ vars t n lo K => K vars t n lo)
  (fun o rest ih i tb nb vars t n lo K =>
   bif Nat.testBit mask i then
    gOp P m k ops o vars t n noLo (fun v vars' t' n' l1 => lowT lo l1 fun lo' => Kp v vars' t' n' lo') fun vars' t' n' l1 => bif noLay P rest || Nat.ble n l1 then lowT lo l1 fun lo' => ih (Nat.add i 1) t' n' vars' t' n' lo' K else False
   else match okind o with
   | .plain => gPlain P m k ops W o tb nb vars fun vars' => ih (Nat.add i 1) tb nb vars' t n lo K
   | .lay => gLay P k ops o (n0 + i) vars fun vars' => ih (Nat.add i 1) tb nb vars' t n lo K
   | .eff => gEff P m k ops o vars t n lo fun vars' t' n' lo' => ih (Nat.add i 1) tb nb vars' t' n' lo' K
   | .store => gStore P m k ops W o vars t n lo fun vars' t' n' lo' => ih (Nat.add i 1) tb nb vars' t' n' lo' K) l
theorem put_ex {k : Nat} {dst : Option Tmp} {v : AV} {vars : Trie AV} {c : Trie AV → Prop} (hp : putT k False dst v vars c) : ∃ vars', (∀ H' H0 d0, putA ⟨k, vars, H0, d0⟩ dst v H' = some ⟨k, vars', H', d0⟩) ∧ c vars' := by
 unfold putT at hp
 split at hp
 ·exact ⟨vars, fun H' H0 d0 => rfl, hp⟩
 ·rename_i s
  cases hb : Nat.blt s k with
  | false => rw [hb] at hp; exact hp.elim
  | true =>
   rw [hb] at hp
   exact ⟨set vars s v, fun H' H0 d0 => putA_some (σ := ⟨k, vars, H0, d0⟩) (Nat.le_of_ble_eq_true hb), hp⟩
theorem low_ex {lo id : Nat} {c : Nat → Prop} (hp : lowT lo id c) : ∃ l, l ≤ lo ∧ l ≤ id ∧ c l := by
 unfold lowT at hp
 cases hb : Nat.ble lo id with
 | true => rw [hb] at hp; exact ⟨lo, Nat.le_refl _, Nat.le_of_ble_eq_true hb, hp⟩
 | false =>
  rw [hb] at hp
  refine ⟨id, ?_, Nat.le_refl _, hp⟩
  rcases Nat.lt_or_ge id lo with h | h
  ·omega
  ·rw [Nat.ble_eq_true_of_le h] at hb; cases hb
section
variable {P : Program} {m : Bool} {k : Nat} {d : List Nat} {ops : Array Oper} {mask n0 : Nat} {W : List Nat} {H0 : List Blk}
def SegOk (P : Program) (k : Nat) (d : List Nat) (ops : Array Oper) (mask n0 : Nat) (W : List Nat) (H0 : List Blk) (is : List Nat) (tb : Trie Blk) (vars : Trie AV) (H : List Blk) (Kp : PanK) (K : Trie AV → Trie Blk → Nat → Nat → Prop) : Prop :=
 (∃ vars' t' n' lo' H', HT t' n' H' ∧ Keep H0 H' lo' ∧ K vars' t' n' lo' ∧
  ∃ Hs' : List (List Blk), (∀ H1 ∈ Hs', Ag W tb H1) ∧ ∀ Hs, (∀ H1 ∈ Hs', H1 ∈ Hs) → (∀ H1 ∈ Hs, Ag W tb H1) → DPath P ops (alAt P n0 ops) mask noLates Hs is ⟨k, vars, H, d⟩ ⟨k, vars', H', d⟩) ∨
 ∃ v vars' t' n' lo' H', HT t' n' H' ∧ Keep H0 H' lo' ∧ Kp v vars' t' n' lo' ∧
  ∃ Hs' : List (List Blk), (∀ H1 ∈ Hs', Ag W tb H1) ∧ ∀ Hs, (∀ H1 ∈ Hs', H1 ∈ Hs) → (∀ H1 ∈ Hs, Ag W tb H1) → DPan P ops (alAt P n0 ops) mask Hs is ⟨k, vars, H, d⟩ v ⟨k, vars', H', d⟩
theorem SegOk.cons {i : Nat} {is : List Nat} {tb : Trie Blk} {vars vars1 : Trie AV} {H H1 : List Blk} {Kp : PanK} {K : Trie AV → Trie Blk → Nat → Nat → Prop} (hm : mask.testBit i = false) (hag : Ag W tb H1)
  (hs : ∀ Hs, H1 ∈ Hs ∨ HLe H H1 → (∀ H2 ∈ Hs, Ag W tb H2) → DStep P ops (alAt P n0 ops) Hs i ⟨k, vars, H, d⟩ ⟨k, vars1, H1, d⟩)
  (h : SegOk P k d ops mask n0 W H0 is tb vars1 H1 Kp K) : SegOk P k d ops mask n0 W H0 (i :: is) tb vars H Kp K := by
 have more : ∀ {Hs' : List (List Blk)}, (∀ H2 ∈ Hs', Ag W tb H2) → ∀ H2 ∈ H1 :: Hs', Ag W tb H2 := fun q1 H2 h => by
  rcases List.mem_cons.1 h with rfl | h
  ·exact hag
  ·exact q1 H2 h
 rcases h with ⟨vars', t', n', lo', H', hH', hk', hK, Hs', q1, q2⟩ | ⟨v, vars', t', n', lo', H', hH', hk', hK, Hs', q1, q2⟩
 ·exact .inl ⟨vars', t', n', lo', H', hH', hk', hK, H1 :: Hs', more q1, fun Hs h1 h2 => .cons hm (hs Hs (.inl (h1 _ (by simp))) h2) no_late (q2 Hs (fun H2 h => h1 H2 (by simp [h])) h2)⟩
 ·exact .inr ⟨v, vars', t', n', lo', H', hH', hk', hK, H1 :: Hs', more q1, fun Hs h1 h2 => .cons hm (hs Hs (.inl (h1 _ (by simp))) h2) (q2 Hs (fun H2 h => h1 H2 (by simp [h])) h2)⟩
theorem gPlain_ex {o : Oper} {i : Nat} {tb : Trie Blk} {nb : Nat} {vars : Trie AV} {go : Trie AV → Prop} {H : List Blk} (ho : ops[i]? = some o) (hok : okind o = .plain) (hag : Ag W tb H) (h : gPlain P m k ops W o tb nb vars go) :
  ∃ vars', go vars' ∧ ∀ Hs, (∀ H2 ∈ Hs, Ag W tb H2) → DStep P ops (alAt P n0 ops) Hs i ⟨k, vars, H, d⟩ ⟨k, vars', H, d⟩ := by
 unfold gPlain at h
 rw [wantF_fun] at h
 cases hw : wantedA ops vars o with
 | none => rw [hw] at h; exact h.elim
 | some b =>
 rw [hw] at h
 cases b with
 | false =>
  obtain ⟨vars', hp, hk⟩ := put_ex h
  exact ⟨vars', hk, fun _ _ => ⟨o, _, H, ho, .skip hw, hp H H d⟩⟩
 | true =>
  obtain ⟨r, ha, hk⟩ := gAop_ex h
  cases r with
  | val v dl =>
   cases dl with
   | same =>
    obtain ⟨vars', hp, hk⟩ := put_ex hk
    have key : ∀ H1, Ag W tb H1 → aop P m H1 (St.eval ⟨k, vars, H, d⟩) o = some (.val v H1) := fun H1 h1 => by
     have := (aopT_sound (H := H1) h1 rfl (aopT_same H1.length hok ha)).1
     rw [evalT_eq k vars H d] at this
     exact this
    exact ⟨vars', hk, fun Hs hall => ⟨o, v, H, ho, .plain hok hw (key H hag) (fun H1 h1 => key H1 (hall H1 h1)), hp H H d⟩⟩
   | _ => exact hk.elim
  | _ => exact hk.elim
theorem gLay_ex {o : Oper} {i : Nat} {vars : Trie AV} {go : Trie AV → Prop} {H : List Blk} (ho : ops[i]? = some o) (hok : okind o = .lay) (h : gLay P k ops o (n0 + i) vars go) :
  ∃ vars', go vars' ∧ ∀ Hs, DStep P ops (alAt P n0 ops) Hs i ⟨k, vars, H, d⟩ ⟨k, vars', H, d⟩ := by
 unfold gLay at h
 rw [wantF_fun] at h
 cases hw : wantedA ops vars o with
 | none => rw [hw] at h; exact h.elim
 | some b =>
 rw [hw] at h
 cases b with
 | false =>
  obtain ⟨vars', hp, hk⟩ := put_ex h
  exact ⟨vars', hk, fun _ => ⟨o, _, H, ho, .skip hw, hp H H d⟩⟩
 | true =>
  simp only at h
  cases hB : layB P o with
  | none => rw [hB] at h; exact h.elim
  | some B =>
   rw [hB] at h
   obtain ⟨vars', hp, hk⟩ := put_ex h
   exact ⟨vars', hk, fun _ => ⟨o, layV o (n0 + i), H, ho, .lay hok hw hB (by simp [alAt, ho, hB]), hp H H d⟩⟩
theorem gEff_ex {o : Oper} {i : Nat} {vars : Trie AV} {t : Trie Blk} {n lo : Nat} {go : Trie AV → Trie Blk → Nat → Nat → Prop} {H : List Blk} (ho : ops[i]? = some o) (hok : okind o = .eff) (hH : HT t n H) (h : gEff P m k ops o vars t n lo go) :
  ∃ vars' t' n' lo' H', HT t' n' H' ∧ Keep H H' lo' ∧ lo' ≤ lo ∧ HLe H H' ∧ go vars' t' n' lo' ∧ ∀ Hs, DStep P ops (alAt P n0 ops) Hs i ⟨k, vars, H, d⟩ ⟨k, vars', H', d⟩ := by
 unfold gEff at h
 cases happ : isAppend o with
 | false =>
  rw [happ, cond_false] at h
  obtain ⟨vars', t', n', l1, H', hH', hk', hl1, h1, hK⟩ := (gOp_spec (d := d) hH h).resolve_right (fun ⟨_, _, _, _, _, _, _, _, _, e⟩ => e)
  cases hcond : Nat.ble n l1 with
  | false => rw [hcond] at hK; exact hK.elim
  | true =>
   rw [hcond, cond_true] at hK
   have hle1 := Nat.le_of_ble_eq_true hcond
   have hle2 : HLe H H' := HLe_of_keep hk' (by rw [hH.len]; exact hle1)
   have hk2 : Keep H H' lo := ⟨hk'.le, fun id _ hlt => hk'.low id (by have := hH.len; omega) hlt, hk'.marks⟩
   refine ⟨vars', t', n', lo, H', hH', hk2, Nat.le_refl _, hle2, hK, fun Hs => ?_⟩
   cases h1 with
   | skip hw hp => exact ⟨o, _, _, ho, .skip hw, hp⟩
   | does hw ha hr' hd hp =>
    rename_i r v H1
    have e := (putA_H hp).1
    have e' : H' = H1 := e
    subst e'
    exact ⟨o, v, _, ho, .eff hok hw ha hr' hle2, hp⟩
 | true =>
  rw [happ, cond_true, wantF_fun] at h
  cases hw : wantedA ops vars o with
  | none => rw [hw] at h; exact h.elim
  | some b =>
  rw [hw] at h
  cases b with
  | false =>
   obtain ⟨vars', hp, hk⟩ := put_ex h
   exact ⟨vars', t, n, lo, H, hH, Keep.refl _ _, Nat.le_refl _, HLe.refl _, hk, fun _ => ⟨o, _, H, ho, .skip hw, hp H H d⟩⟩
  | true =>
   obtain ⟨r, ha, hk⟩ := gAop_ex h
   obtain ⟨ha', hokD⟩ := aopT_sound (H := H) hH.blk hH.len ha
   rw [evalT_eq k vars H d] at ha'
   cases r with
   | val v dl =>
    cases dl with
    | same =>
     obtain ⟨vars', hp, hk⟩ := put_ex hk
     exact ⟨vars', t, n, lo, H, hH, Keep.refl _ _, Nat.le_refl _, HLe.refl _, hk, fun _ => ⟨o, v, H, ho, .eff hok hw ha' (.inl rfl) (HLe.refl _), hp H H d⟩⟩
    | push B =>
     obtain ⟨vars', hp, hk⟩ := put_ex hk
     have hle : HLe H (H ++ [B]) := HLe_of_keep (Keep.append H [B] H.length) (Nat.le_refl _)
     exact ⟨vars', _, _, lo, H ++ [B], hH.push B, Keep.append _ _ _, Nat.le_refl _, hle, hk, fun _ => ⟨o, v, _, ho, .eff hok hw ha' (.inl rfl) hle, hp _ H d⟩⟩
    | set id B =>
     cases B with
     | row g =>
      obtain ⟨vars', hp, hk⟩ := put_ex hk
      obtain ⟨l, h1, h2, hk⟩ := low_ex hk
      obtain ⟨B0, hB0, hd0, hloose⟩ := hokD
      have hlt : id < n := by rw [← hH.len]; exact (List.getElem?_eq_some_iff.1 hB0).1
      have hk' : Keep H (H.set id (.row g)) id := Keep.set hB0 hd0
      have hle2 : HLe H (H.set id (.row g)) := fun j B hB hl => by
       rw [List.getElem?_set_ne]
       ·exact hB
       ·rintro rfl; rw [hB0] at hB; cases hB; rw [hloose rfl] at hl; cases hl
      exact ⟨vars', _, _, l, _, hH.set hlt (.row g), hk'.mono h2, h1, hle2, hk, fun _ => ⟨o, v, _, ho, .eff hok hw ha' (.inl rfl) hle2, hp _ H d⟩⟩
     | _ => exact hk.elim
   | _ => exact hk.elim
theorem gStore_ex {o : Oper} {i : Nat} {tb : Trie Blk} {vars : Trie AV} {t : Trie Blk} {n lo : Nat} {go : Trie AV → Trie Blk → Nat → Nat → Prop} {H : List Blk} (ho : ops[i]? = some o) (hok : okind o = .store) (hH : HT t n H) (hag : Ag W tb H)
  (h : gStore P m k ops W o vars t n lo go) :
  ∃ vars' t' lo' H', HT t' n H' ∧ Keep H H' lo' ∧ lo' ≤ lo ∧ Ag W tb H' ∧ go vars' t' n lo' ∧ ∀ Hs, H' ∈ Hs → DStep P ops (alAt P n0 ops) Hs i ⟨k, vars, H, d⟩ ⟨k, vars', H', d⟩ := by
 unfold gStore at h
 rw [wantF_fun] at h
 split at h
 case h_2 => exact h.elim
 rename_i hw
 obtain ⟨r, ha, hk⟩ := gAop_ex h
 obtain ⟨ha', hokD⟩ := aopT_sound (H := H) hH.blk hH.len ha
 rw [evalT_eq k vars H d] at ha'
 cases r with
 | val v dl =>
  cases dl with
  | set id B =>
   simp only at hk
   cases hw2 : memN W id with
   | false => rw [hw2] at hk; exact hk.elim
   | true =>
    rw [hw2, cond_true] at hk
    obtain ⟨vars', hp, hk⟩ := put_ex hk
    obtain ⟨l, h1, h2, hk⟩ := low_ex hk
    obtain ⟨B0, hB0, hd0, hloose⟩ := hokD
    have hlt : id < n := by rw [← hH.len]; exact (List.getElem?_eq_some_iff.1 hB0).1
    have hk' : Keep H (H.set id B) id := Keep.set hB0 hd0
    have hag' : Ag W tb (H.set id B) := fun j Bj hj => by
     have hx := hideT_get hj
     rw [List.getElem?_set_ne]
     ·exact hag j Bj hj
     ·rintro rfl
      rw [hw2] at hx; cases hx.2.2
    exact ⟨vars', _, l, _, hH.set hlt B, hk'.mono h2, h1, hag', hk, fun Hs hHs => ⟨o, v, _, ho, .store hok hw ha' ⟨_, hHs, HLe.refl _⟩ hk'.marks, hp _ H d⟩⟩
  | _ => exact hk.elim
 | _ => exact hk.elim
theorem gSeg_spec {Kp : PanK} {K : Trie AV → Trie Blk → Nat → Nat → Prop} : ∀ (l : List Oper) (i : Nat), (∀ j, l[j]? = ops[i + j]?) → ∀ tb nb vars t n lo H, Ag W tb H → HT t n H → n0 + ops.size ≤ n → Keep H0 H lo → gSeg P m k ops mask n0 W Kp l i tb nb vars t n lo K →
    SegOk P k d ops mask n0 W H0 (List.range' i l.length) tb vars H Kp K
  | [], i, _, tb, nb, vars, t, n, lo, H, _, hH, _, hk, h => .inl ⟨vars, t, n, lo, H, hH, hk, h, [], (fun _ h => by cases h), fun _ _ _ => .nil⟩
  | o :: l, i, hl, tb, nb, vars, t, n, lo, H, hag, hH, hn0, hk, h => by
    have ho : ops[i]? = some o := by have := hl 0; simpa using this.symm
    have hl' : ∀ j, l[j]? = ops[i + 1 + j]? := fun j => by have := hl (j + 1); simpa [Nat.add_assoc, Nat.add_comm 1 j] using this
    have h' : (bif Nat.testBit mask i then
        gOp P m k ops o vars t n noLo (fun v vars' t' n' l1 => lowT lo l1 fun lo' => Kp v vars' t' n' lo') fun vars' t' n' l1 => bif noLay P l || Nat.ble n l1 then lowT lo l1 fun lo' => gSeg P m k ops mask n0 W Kp l (i + 1) t' n' vars' t' n' lo' K else False
      else match okind o with
      | .plain => gPlain P m k ops W o tb nb vars fun vars' => gSeg P m k ops mask n0 W Kp l (i + 1) tb nb vars' t n lo K
      | .lay => gLay P k ops o (n0 + i) vars fun vars' => gSeg P m k ops mask n0 W Kp l (i + 1) tb nb vars' t n lo K
      | .eff => gEff P m k ops o vars t n lo fun vars' t' n' lo' => gSeg P m k ops mask n0 W Kp l (i + 1) tb nb vars' t' n' lo' K
      | .store => gStore P m k ops W o vars t n lo fun vars' t' n' lo' => gSeg P m k ops mask n0 W Kp l (i + 1) tb nb vars' t' n' lo' K) := h
    clear h
    cases hm : Nat.testBit mask i with
    | true =>
      rw [hm, cond_true] at h'
      rcases gOp_spec (d := d) hH h' with ⟨vars', t', n', l1, H', hH', hk', _, h1, hK⟩ | ⟨v, t', n', l1, H', hH', hk', _, h1, hK⟩
      rotate_left
      · obtain ⟨lo', h2, h3, hK⟩ := low_ex hK
        exact .inr ⟨v, vars, t', n', lo', H', hH', hk.trans hk' h2 h3, hK, [], (fun _ h => by cases h), fun Hs _ _ => .pan hm (h1 i ho)⟩
      cases hcond : (noLay P l || Nat.ble n l1) with
      | false => rw [hcond] at hK; exact hK.elim
      | true =>
      rw [hcond, cond_true] at hK
      obtain ⟨lo', h2, h3, hK⟩ := low_ex hK
      have hf : ∀ j ∈ List.range' (i + 1) l.length, ∀ id, alAt P n0 ops j = some id → (⟨k, vars', H', d⟩ : St).H[id]? = (⟨k, vars, H, d⟩ : St).H[id]? := fun j hj id hal => by
        have hal' := alAt_spec hal
        rw [Bool.or_eq_true] at hcond
        rcases hcond with hcond | hcond
        · exfalso
          unfold noLay at hcond
          rw [List.all_eq_true] at hcond
          rw [List.mem_range'_1] at hj
          have hj2 : l[j - (i + 1)]? = ops[j]? := by rw [hl']; congr 1; omega
          unfold alAt at hal
          split at hal
          · rename_i oj hoj
            rw [hoj] at hj2
            have := hcond oj (List.mem_of_getElem? hj2)
            split at hal
            · rename_i B hB; rw [hB] at this; simp at this
            · cases hal
          · cases hal
        · have hle1 := Nat.le_of_ble_eq_true hcond
          show H'[id]? = H[id]?
          exact hk'.low id (by omega) (by rw [hH.len]; omega)
      have more : ∀ {Hs' : List (List Blk)}, (∀ H1 ∈ Hs', Ag W t' H1) → ∀ H1 ∈ H' :: Hs', Ag W t' H1 := fun q1 H1 h => by
        rcases List.mem_cons.1 h with rfl | h
        · exact Ag.of hH'
        · exact q1 H1 h
      rcases gSeg_spec l (i + 1) hl' t' n' vars' t' n' lo' H' (Ag.of hH') hH' (by have := hk'.le; have := hH.len; have := hH'.len; omega) (hk.trans hk' h2 h3) hK with ⟨vars2, t2, n2, lo2, H2, a, b, c, Hs', q1, q2⟩ | ⟨v, vars2, t2, n2, lo2, H2, a, b, c, Hs', q1, q2⟩
      · exact .inl ⟨vars2, t2, n2, lo2, H2, a, b, c, [], (fun _ h => by cases h), fun Hs _ _ => .barrier (Hs' := H' :: Hs') hm (h1.step ho) hf ⟨H', by simp, HLe.refl _⟩ (fun e => by cases e)
          (q2 (H' :: Hs') (fun H1 h => by simp [h]) (more q1))⟩
      · exact .inr ⟨v, vars2, t2, n2, lo2, H2, a, b, c, [], (fun _ h => by cases h), fun Hs _ _ => .barrier (Hs' := H' :: Hs') hm (h1.step ho) hf ⟨H', by simp, HLe.refl _⟩
          (q2 (H' :: Hs') (fun H1 h => by simp [h]) (more q1))⟩
    | false =>
      rw [hm, cond_false] at h'
      cases hok : okind o with
      | plain =>
        rw [hok] at h'
        obtain ⟨vars', hK, hs⟩ := gPlain_ex (d := d) (n0 := n0) ho hok hag h'
        exact SegOk.cons hm hag (fun Hs _ hall => hs Hs hall) (gSeg_spec l (i + 1) hl' tb nb vars' t n lo H hag hH hn0 hk hK)
      | lay =>
        rw [hok] at h'
        obtain ⟨vars', hK, hs⟩ := gLay_ex (d := d) (n0 := n0) (H := H) ho hok h'
        exact SegOk.cons hm hag (fun Hs _ _ => hs Hs) (gSeg_spec l (i + 1) hl' tb nb vars' t n lo H hag hH hn0 hk hK)
      | eff =>
        rw [hok] at h'
        obtain ⟨vars', t', n', lo', H', hH', hk', hlo, hle, hK, hs⟩ := gEff_ex (d := d) (n0 := n0) ho hok hH h'
        exact SegOk.cons hm (hag.le hle) (fun Hs _ _ => hs Hs) (gSeg_spec l (i + 1) hl' tb nb vars' t' n' lo' H' (hag.le hle) hH' (by have := hk'.le; have := hH.len; have := hH'.len; omega) (hk.trans hk' hlo (Nat.le_refl _)) hK)
      | store =>
        rw [hok] at h'
        obtain ⟨vars', t', lo', H', hH', hk', hlo, hag', hK, hs⟩ := gStore_ex (d := d) (n0 := n0) ho hok hH hag h'
        have more : ∀ {Hs' : List (List Blk)}, (∀ H1 ∈ Hs', Ag W tb H1) → ∀ H1 ∈ H' :: Hs', Ag W tb H1 := fun q1 H1 h => by
          rcases List.mem_cons.1 h with rfl | h
          · exact hag'
          · exact q1 H1 h
        rcases gSeg_spec l (i + 1) hl' tb nb vars' t' n lo' H' hag' hH' hn0 (hk.trans hk' hlo (Nat.le_refl _)) hK with ⟨vars2, t2, n2, lo2, H2, a, b, c, Hs', q1, q2⟩ | ⟨v, vars2, t2, n2, lo2, H2, a, b, c, Hs', q1, q2⟩
        · exact .inl ⟨vars2, t2, n2, lo2, H2, a, b, c, H' :: Hs', more q1, fun Hs h1 h2 => .cons hm (hs Hs (h1 _ (by simp))) no_late (q2 Hs (fun H1 h => h1 H1 (by simp [h])) h2)⟩
        · exact .inr ⟨v, vars2, t2, n2, lo2, H2, a, b, c, H' :: Hs', more q1, fun Hs h1 h2 => .cons hm (hs Hs (h1 _ (by simp))) (q2 Hs (fun H1 h => h1 H1 (by simp [h])) h2)⟩
def hoistG (P : Program) (l : List Oper) : Nat → Trie Blk → Trie Blk :=
 List.rec (fun _ t => t) (fun o _ ih j t => ih (Nat.succ j) (set t j (match layB P o with | some B => B | none => .defd))) l
theorem hoistG_sound : ∀ (l : List Oper) (j : Nat) (t : Trie Blk) (H : List Blk), HT t j H → HT (hoistG P l j t) (j + l.length) (H ++ l.map fun o => (layB P o).getD .defd)
 | [], j, t, H, h => by
  have e : H ++ ([] : List Oper).map (fun o => (layB P o).getD .defd) = H := by simp
  rw [e]; exact h
 | o :: l, j, t, H, h => by
  have e : j + (o :: l).length = j + 1 + l.length := by simp; omega
  rw [e]
  show HT (hoistG P l (j + 1) (set t j (match layB P o with | some B => B | none => .defd))) _ _
  have e2 : (match layB P o with | some B => B | none => .defd) = (layB P o).getD .defd := by cases layB P o <;> rfl
  rw [e2]
  have := hoistG_sound l (j + 1) (set t j ((layB P o).getD .defd)) (H ++ [(layB P o).getD .defd]) (h.push _)
  simpa using this
def gDraw (P : Program) (m : Bool) (k : Nat) (ops : Array Oper) (vars : Trie AV) (t : Trie Blk) (n lo : Nat) (Kp : PanK) (K : Trie AV → Trie Blk → Nat → Nat → Prop) : Prop :=
 bif drawOk (maskOf ops) ops then
  bif hasStore (maskOf ops) ops.toList 0 then PickW fun W => gSeg P m k ops (maskOf ops) n W Kp ops.toList 0 (hoistG P ops.toList n t) (n + ops.size) vars (hoistG P ops.toList n t) (n + ops.size) lo K
  else gSeg P m k ops (maskOf ops) n [] Kp ops.toList 0 (hoistG P ops.toList n t) (n + ops.size) vars (hoistG P ops.toList n t) (n + ops.size) lo K
 else False
theorem gDraw_spec {vars : Trie AV} {t : Trie Blk} {n lo id : Nat} {H : List Blk} {ro : Option Nat} {Kp : PanK} {K : Trie AV → Trie Blk → Nat → Nat → Prop} (hm : P.follows .mixedOrders = true) (hH : HT t n H) (hk : Keep H0 H lo) (h : gDraw P m k ops vars t n lo Kp K) :
    (∃ vars' t' n' lo' H', HT t' n' H' ∧ Keep H0 H' lo' ∧ Run P ro (.region id ops true) ⟨k, vars, H, d⟩ .normal ⟨k, vars', H', d⟩ ∧ K vars' t' n' lo') ∨
      ∃ v vars' t' n' lo' H', HT t' n' H' ∧ Keep H0 H' lo' ∧ Run P ro (.region id ops true) ⟨k, vars, H, d⟩ (.pan v) ⟨k, vars', H', d⟩ ∧ Kp v vars' t' n' lo' := by
  unfold gDraw at h
  cases hd : drawOk (maskOf ops) ops with
  | false => rw [hd] at h; exact h.elim
  | true =>
  rw [hd, cond_true] at h
  have key : ∀ W, gSeg P m k ops (maskOf ops) n W Kp ops.toList 0 (hoistG P ops.toList n t) (n + ops.size) vars (hoistG P ops.toList n t) (n + ops.size) lo K →
      (∃ vars' t' n' lo' H', HT t' n' H' ∧ Keep H0 H' lo' ∧ Run P ro (.region id ops true) ⟨k, vars, H, d⟩ .normal ⟨k, vars', H', d⟩ ∧ K vars' t' n' lo') ∨
      ∃ v vars' t' n' lo' H', HT t' n' H' ∧ Keep H0 H' lo' ∧ Run P ro (.region id ops true) ⟨k, vars, H, d⟩ (.pan v) ⟨k, vars', H', d⟩ ∧ Kp v vars' t' n' lo' := by
    intro W h
    have hH1 : HT (hoistG P ops.toList n t) (n + ops.size) (H ++ hoisted P ops) := by
      have := hoistG_sound (P := P) ops.toList n t H hH
      simpa [hoisted] using this
    have more : ∀ {Hs' : List (List Blk)}, (∀ H1 ∈ Hs', Ag W (hoistG P ops.toList n t) H1) → ∀ H1 ∈ (H ++ hoisted P ops) :: Hs', Ag W (hoistG P ops.toList n t) H1 := fun q1 H1 h => by
      rcases List.mem_cons.1 h with rfl | h
      · exact Ag.of hH1
      · exact q1 H1 h
    rcases gSeg_spec (d := d) (H0 := H0) ops.toList 0 (fun j => by simp) (hoistG P ops.toList n t) (n + ops.size) vars (hoistG P ops.toList n t) (n + ops.size) lo
      (H ++ hoisted P ops) (Ag.of hH1) hH1 (Nat.le_refl _) (hk.trans (Keep.append H _ lo) (Nat.le_refl _) (Nat.le_refl _)) h with ⟨vars', t', n', lo', H', a, b, c, Hs', q1, q2⟩ | ⟨v, vars', t', n', lo', H', a, b, c, Hs', q1, q2⟩
    · refine .inl ⟨vars', t', n', lo', H', a, b, ?_, c⟩
      refine Run.region_draw (Hs := (H ++ hoisted P ops) :: Hs') hm (drawOk_F hd) (by simp) ?_
      have := q2 ((H ++ hoisted P ops) :: Hs') (fun H1 h => by simp [h]) (more q1)
      simp only [hH.len]
      simpa [List.range_eq_range'] using this
    · refine .inr ⟨v, vars', t', n', lo', H', a, b, ?_, c⟩
      refine Run.region_draw_pan (Hs := (H ++ hoisted P ops) :: Hs') hm hd (by simp) ?_
      have := q2 ((H ++ hoisted P ops) :: Hs') (fun H1 h => by simp [h]) (more q1)
      simp only [hH.len]
      simpa [List.range_eq_range'] using this
  cases hst : hasStore (maskOf ops) ops.toList 0 with
  | false => rw [hst] at h; exact key [] h
  | true =>
    rw [hst, cond_true] at h
    obtain ⟨W, h⟩ := h
    exact key W h
end
end
end Go.Vm

namespace Go.Vm
open Go.Proofs
abbrev CodeQ := AExit → ES → Nat → Prop
def WR (P : Program) (ro : Option Nat) (c : Code) (k : Nat) (vars : Trie AV) (t : Trie Blk) (n : Nat) (d : List Nat) (lo : Nat) (Q : CodeQ) : Prop :=
 ∀ H H0, HT t n H → Keep H0 H lo → ∃ x e lo' H', HT e.t e.n H' ∧ Keep H0 H' lo' ∧ Run P ro c ⟨k, vars, H, d⟩ x ⟨k, e.vars, H', e.defs⟩ ∧ Q x e lo'
def WI (P : Program) (ro : Option Nat) (c : Code) (k : Nat) (vars : Trie AV) (t : Trie Blk) (n : Nat) (d : List Nat) (lo : Nat) (Q : CodeQ) : Prop :=
 ∀ H H0, HT t n H → Keep H0 H lo → ∃ x e lo' H', HT e.t e.n H' ∧ Keep H0 H' lo' ∧ InL P ro c ⟨k, vars, H, d⟩ x ⟨k, e.vars, H', e.defs⟩ ∧ Q x e lo'
inductive LoopG (P : Program) (ro : Option Nat) (c : Code) (k : Nat) (vars : Trie AV) (t : Trie Blk) (n : Nat) (d : List Nat) (lo : Nat) (Q : CodeQ) : Prop
 | mk (h : WI P ro c k vars t n d lo Q)
inductive RangeG (P : Program) (ro : Option Nat) (c : Code) (k : Nat) (vars : Trie AV) (t : Trie Blk) (n : Nat) (d : List Nat) (lo : Nat) (Q : CodeQ) : Prop
 | mk (h : WR P ro c k vars t n d lo Q)
inductive IfB (b : Bool) (X Y : Prop) : Prop
 | mk (h1 : b = true → X) (h2 : b = false → Y)
noncomputable section
def gCode (P : Program) (m : Bool) (k : Nat) (ro : Option Nat) (c : Code) : Trie AV → Trie Blk → Nat → List Nat → Nat → CodeQ → Prop :=
 Code.rec (motive := fun _ => Trie AV → Trie Blk → Nat → List Nat → Nat → CodeQ → Prop)
  (fun vars t n d lo Q => Q .normal ⟨vars, t, n, d⟩ lo)
  (fun _ ops draw vars t n d lo Q => match draw with
   | true => gDraw P m k ops vars t n lo (fun v vars' t' n' lo' => Q (.pan v) ⟨vars', t', n', d⟩ lo') fun vars' t' n' lo' => Q .normal ⟨vars', t', n', d⟩ lo'
   | false => gOps P m k ops (fun v vars' t' n' lo' => Q (.pan v) ⟨vars', t', n', d⟩ lo') ops.toList vars t n lo fun vars' t' n' lo' => Q .normal ⟨vars', t', n', d⟩ lo')
  (fun _ _ iha ihb vars t n d lo Q => iha vars t n d lo fun x e lo' => ES.rec (motive := fun _ => Prop) (fun vars1 t1 n1 d1 => match x with
   | .normal => ihb vars1 t1 n1 d1 lo' Q
   | x => Q x ⟨vars1, t1, n1, d1⟩ lo') e)
  (fun c _ _ iha ihb vars t n d lo Q => match evalT vars c with
   | some (.lit (.bool b)) => IfB b (iha vars t n d lo Q) (ihb vars t n d lo Q)
   | _ => False)
  (fun i _ ih vars t n d lo Q => ih vars t n d lo fun x e lo' => match x with
   | .exit j => bif Nat.beq i j then Q .normal e lo' else Q (.exit j) e lo'
   | x => Q x e lo')
  (fun c _ vars t n d lo Q => LoopG P ro c k vars t n d lo Q)
  (fun g ps assign body _ _ vars t n d lo Q => RangeG P ro (.rangeFunc g ps assign body) k vars t n d lo Q)
  (fun i vars t n d lo Q => Q (.exit i) ⟨vars, t, n, d⟩ lo)
  (fun _ ih vars t n d lo Q => ih vars t n d lo Q)
  (fun _ vars t n d lo Q => Q .normal ⟨vars, t, n, d⟩ lo)
  (fun _ _ _ _ _ _ _ => False)
  (fun vars t n d lo Q => Q .ret ⟨vars, t, n, d⟩ lo)
  (fun _ _ _ _ _ _ _ => False)
  c
theorem gCode_spec {P : Program} {m : Bool} {k : Nat} {ro : Option Nat} (hm : P.follows .mixedOrders = true) : ∀ (c : Code) vars t n d lo (Q : CodeQ), gCode P m k ro c vars t n d lo Q → WR P ro c k vars t n d lo Q := by
 intro c
 induction c with
 | skip => intro vars t n d lo Q h H H0 hH hk; exact ⟨.normal, ⟨vars, t, n, d⟩, lo, H, hH, hk, .skip, h⟩
 | region id ops draw =>
  intro vars t n d lo Q h H H0 hH hk
  cases draw with
  | true =>
   rcases gDraw_spec (d := d) (id := id) (ro := ro) hm hH hk h with ⟨vars', t', n', lo', H', a, b, c, q⟩ | ⟨v, vars', t', n', lo', H', a, b, c, q⟩
   ·exact ⟨.normal, ⟨vars', t', n', d⟩, lo', H', a, b, c, q⟩
   ·exact ⟨.pan v, ⟨vars', t', n', d⟩, lo', H', a, b, c, q⟩
  | false =>
   rcases gOps_spec (d := d) (ops := ops) ops.toList 0 (fun j => by simp) vars t n lo H hH hk h with ⟨vars', t', n', lo', H', a, b, c, q⟩ | ⟨v, vars', t', n', lo', H', a, b, c, q⟩
   ·exact ⟨.normal, ⟨vars', t', n', d⟩, lo', H', a, b, Run.region (by simpa [List.range_eq_range'] using c), q⟩
   ·exact ⟨.pan v, ⟨vars', t', n', d⟩, lo', H', a, b, Run.region_pan (by simpa [List.range_eq_range'] using c), q⟩
 | seq a b iha ihb =>
  intro vars t n d lo Q h H H0 hH hk
  obtain ⟨x, ⟨vars1, t1, n1, d1⟩, lo1, H1, hH1, hk1, r1, q⟩ := iha vars t n d lo _ h H H0 hH hk
  cases x with
  | normal =>
   obtain ⟨x, e2, lo2, H2, hH2, hk2, r2, q2⟩ := ihb vars1 t1 n1 d1 lo1 Q q H1 H0 hH1 hk1
   exact ⟨x, e2, lo2, H2, hH2, hk2, .seq r1 r2, q2⟩
  | _ => exact ⟨_, ⟨vars1, t1, n1, d1⟩, lo1, H1, hH1, hk1, .seq_out r1 rfl, q⟩
 | cond c a b iha ihb =>
  intro vars t n d lo Q h H H0 hH hk
  have h' : (match evalT vars c with | some (.lit (.bool b')) => IfB b' (gCode P m k ro a vars t n d lo Q) (gCode P m k ro b vars t n d lo Q) | _ => False) := h
  clear h
  split at h'
  ·rename_i b' he
   rw [evalT_eq k vars H d] at he
   obtain ⟨h1, h2⟩ := h'
   cases b' with
   | true =>
    obtain ⟨x, e, lo1, H1, hH1, hk1, r1, q⟩ := iha vars t n d lo Q (h1 rfl) H H0 hH hk
    exact ⟨x, e, lo1, H1, hH1, hk1, .cond he r1, q⟩
   | false =>
    obtain ⟨x, e, lo1, H1, hH1, hk1, r1, q⟩ := ihb vars t n d lo Q (h2 rfl) H H0 hH hk
    exact ⟨x, e, lo1, H1, hH1, hk1, .cond he r1, q⟩
  ·exact h'.elim
 | block i c ih =>
  intro vars t n d lo Q h H H0 hH hk
  obtain ⟨x, e, lo1, H1, hH1, hk1, r1, q⟩ := ih vars t n d lo _ h H H0 hH hk
  cases x with
  | normal => exact ⟨.normal, e, lo1, H1, hH1, hk1, .block r1 (.inl rfl), q⟩
  | exit j =>
   simp only at q
   cases hb : Nat.beq i j with
   | true =>
    rw [hb, cond_true] at q
    have := Nat.eq_of_beq_eq_true hb
    subst this
    exact ⟨.normal, e, lo1, H1, hH1, hk1, .block r1 (.inr rfl), q⟩
   | false =>
    rw [hb, cond_false] at q
    refine ⟨.exit j, e, lo1, H1, hH1, hk1, .block_out r1 ?_, q⟩
    have : j ≠ i := by rintro rfl; rw [Nat.beq_refl] at hb; cases hb
    simp [AExit.passes, this]
  | ret => exact ⟨.ret, e, lo1, H1, hH1, hk1, .block_out r1 rfl, q⟩
  | pan v => exact ⟨.pan v, e, lo1, H1, hH1, hk1, .block_out r1 rfl, q⟩
 | loop c ih =>
  intro vars t n d lo Q h H H0 hH hk
  obtain ⟨h⟩ := h
  obtain ⟨x, e, lo', H', a, b, r, q⟩ := h H H0 hH hk
  exact ⟨x, e, lo', H', a, b, .loop r, q⟩
 | rangeFunc g ps assign body _ _ =>
  intro vars t n d lo Q h
  obtain ⟨h⟩ := h
  exact h
 | exit i => intro vars t n d lo Q h H H0 hH hk; exact ⟨.exit i, ⟨vars, t, n, d⟩, lo, H, hH, hk, .exit, h⟩
 | scope c ih =>
  intro vars t n d lo Q h H H0 hH hk
  obtain ⟨x, e, lo1, H1, hH1, hk1, r1, q⟩ := ih vars t n d lo Q h H H0 hH hk
  exact ⟨x, e, lo1, H1, hH1, hk1, .scope r1, q⟩
 | label l => intro vars t n d lo Q h H H0 hH hk; exact ⟨.normal, ⟨vars, t, n, d⟩, lo, H, hH, hk, .label, h⟩
 | goto l => intro vars t n d lo Q h; exact h.elim
 | ret => intro vars t n d lo Q h H H0 hH hk; exact ⟨.ret, ⟨vars, t, n, d⟩, lo, H, hH, hk, .ret, h⟩
 | refuse w => intro vars t n d lo Q h; exact h.elim
inductive FinG (P : Program) (rs : List ResultVar) (e : ES) (v : AV) : Prop
 | mk (vs : List AV) (h : resT P (get e.t) e.vars rs = some vs) (hd : e.defs = []) (hv : AV.freeze (get e.t) (resV vs) = v)
theorem fn_rule {P : Program} {m : Bool} {f : FuncId} {fn : Func} {c : Code} {args : List AV} {v : AV} (hm : P.follows .mixedOrders = true) (hf : P.funcs[f]? = some fn) (hb : fn.body = some c) (hn : args.length ≤ fn.ntmps)
  (ha : AV.unders 0 args) (hv : v.under 0)
  (h : gCode P m fn.ntmps none c (initVars 0 args) .nil 0 [] noLo fun x e _ => (x = .ret ∨ x = .normal) ∧ FinG P fn.results.toList e v) (H : List Blk) : ACall P f args H (.ret v) H := by
 obtain ⟨x, e, lo, H', hH', hk', hrun, hx, vs, hres, hd, hfr⟩ := gCode_spec hm c _ _ _ _ _ _ h [] [] HT.nil (Keep.refl _ _)
 have hcr : ACall P f args [] (.ret (resV vs)) H' := by
  rw [hd] at hrun
  exact ACall.intro_marks hf hb hn hrun hx List.nodup_nil (resT_sound hH' hres)
 subst hfr
 exact hcr.freeze0 hH'.blk ha hv H
end
end Go.Vm
