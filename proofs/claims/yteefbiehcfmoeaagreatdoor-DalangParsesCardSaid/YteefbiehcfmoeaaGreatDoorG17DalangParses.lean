/-
  Texts of the proof, part 17: the machine, contracts of functions, plain laws. (Own work.)
-/
import Derived.Test.YteefbiehcfmoeaaGreatDoorG16DalangParses
import Derived.ProofKit
import Derived.LaidMore
import Derived.Lay
import Derived.Stop.Joined

namespace Go.Vm
open Go.Proofs Go.ChangeShapes Go.WideShapes Go.RowKit
structure Kept (W W' : World) : Prop where
 os : W'.os = W.os
 output : W'.output = W.output
 block : ∀ b : Nat, b < W.heap.size → W'.heap[b]? = W.heap[b]?
theorem Kept.same {W W' : World} (h : Kept W W') {p : MemPlace} (hp : p.block < W.heap.size) : W.sameAt W' p := by
 cases p with
 | cell b o => exact World.cell?_of_block (w := W) (h.block b hp)
 | map b => exact h.block b hp
theorem Kept.frame {W W' : World} (h : Kept W W') (may : MemPlace → Prop) : W.keptBut W' may := by
 refine ⟨h.os, h.output, fun i hi => ?_⟩
 rw [h.block i hi]
 split <;> simp_all
theorem law_calls {P : Program} {f : FuncId} {args : Array Value} {W : World} {avs : List AV} (h : ∀ H, ACall P f avs H (.ret (.lit (.bool true))) H) (hrel : @VRels (allOut W) (sit0 W) avs args.toList) (ht : TabW W) :
  Calls P f args W fun e W' => e = .returned (.bool true) ∧ Kept W W' := by
 have hc : CallsIn Fence.wide 0 P f args W _ := h [] (allOut W) (fun _ => none) W args (rel0 W ht) hrel
 refine (callsIn_wide.1 hc).mono ?_
 rintro e w' ⟨ι', hend, _, hev, _⟩
 cases e with
 | panicked chain => exact hend.elim
 | outgrown => exact hend.elim
 | returned c =>
  have hc' : @VRel (allOut W) ⟨[], ι', w'⟩ (.lit (.bool true)) c := hend
  simp only [VRel] at hc'
  subst hc'
  have h1 := @Ev.rest (allOut W) _ _ hev
  have h2 := @Ev.out (allOut W) _ _ hev
  refine ⟨rfl, h1.1, h1.2, fun b hb => ?_⟩
  obtain ⟨x, hx⟩ := allOut_at hb
  exact h2 b x hx
theorem trodAll_kept {H : Type} {enc : TypeId × Value → H} {P : Program} (hl : laidOutB P = true) {W W' : World} (hk : Kept W W') : ∀ {ts : List TypeId} {vs : List Value} {ds : List (DataW H)} {ps : List MemPlace},
  (ts.all fun t => P.readableRec t && decide (t < P.types.size)) = true → DataW.TrodAll enc P W 0 (fun _ => true) true ts vs ds ps → (∀ x ∈ ps, x.block < W.heap.size) → DataW.TrodAll enc P W' 0 (fun b => decide (b < W.heap.size)) true ts vs ds ps
 | [], [], [], _, _, h, _ => h
 | t :: ts, v :: vs, d :: ds, ps, hr, h, hlt => by
  obtain ⟨p, q, h1, h2, rfl⟩ := h
  rw [List.all_cons, Bool.and_eq_true, Bool.and_eq_true] at hr
  refine ⟨p, q, WideElems.Trod_stays hl hr.1.1 (of_decide_eq_true hr.1.2) h1 (fun x hx => hk.same (hlt x (List.mem_append_left _ hx))) (fun x hx => by simpa using hlt x (List.mem_append_left _ hx)), trodAll_kept hl hk hr.2 h2 (fun x hx => hlt x (List.mem_append_right _ hx)), rfl⟩
 | [], _ :: _, _, _, _, h, _ => h.elim
 | [], [], _ :: _, _, _, h, _ => h.elim
 | _ :: _, [], _, _, _, h, _ => h.elim
 | _ :: _, _ :: _, [], _, _, h, _ => h.elim
theorem law_post {H : Type} {enc : TypeId × Value → H} {P : Program} {f : Func} {s : ChangeSpec} {W W' : World} {args : Array Value} {ds gs : List (DataW H)} {before : List MemPlace} (hl : laidOutB P = true) (hres : f.resultTypes = #[4]) (h4 : P.underlying 4 = some .bool)
  (hts : (f.params.toList.all fun t => P.readableRec t && decide (t < P.types.size)) = true) (hW : DataW.Whole enc P f.params.toList s.vars false W args.toList ds gs before) (hs : s.vars = []) (hfn : s.fn H (ds ++ gs) = { results := [.lit (.bool true)], args := ds }) (hk : Kept W W') :
  s.post enc P f false true false false W args (.bool true) W' := by
 have hW' := hW
 obtain ⟨p, q, hA0, hV, rfl, _, _⟩ := hW
 have hA : DataW.TrodAll enc P W 0 (fun _ => true) true f.params.toList args.toList ds p := hA0
 rw [hs] at hV
 obtain ⟨rfl, rfl⟩ := trodVars_none hV
 refine ⟨ds, [], p ++ [], [], p, [], hW', ?_, ?_, ?_, hk.frame _, fun h => by cases h⟩
 ·rw [hfn, hres]
  exact trodAll_mk1 (shut_bool h4 true)
 ·rw [hfn]
  refine trodAll_kept hl hk hts hA fun x hx => ?_
  have := hW'.lt x (List.mem_append_left _ hx)
  simpa using this
 ·rw [hfn, hs]; rfl
theorem RdC.cell {α : Type} {P : Program} {w : World} {t : TypeId} {f : α → AV} {G : α → Prop} (h : RdC P w t (fun a => [f a]) G) {H : Type} {enc : TypeId × Value → H} {base : Nat} {sp : Nat → Bool} {held : Bool} {v : Value} {d : DataW H} {ps : List MemPlace} (hv : v.cells = #[v])
  (hd : DataW.Trod enc P w base sp held t v d ps) : ∃ a, @VRel (allOut w) (sit0 w) (f a) v ∧ G a := by
 obtain ⟨fuel, hd⟩ := hd
 rw [hv] at hd
 obtain ⟨a, h1, h2⟩ := h H enc _ _ _ _ _ _ hd
 have h1' : @VRels (allOut w) (sit0 w) [f a] [v] := h1
 simp only [VRels, and_true] at h1'
 exact ⟨a, h1', h2⟩
theorem okWide_cell {P : Program} {w : World} {r : Reach} {base : Nat} {t : TypeId} {v : Value} (h : (∃ e, P.underlying t = some (.slice e)) ∨ (∃ k, P.underlying t = some (.int k)) ∨ P.underlying t = some .bool ∨ P.underlying t = some .string) (hv : Value.okWide P w r base t v) : v.cells = #[v] := by
 cases v with
 | agg cs =>
  exfalso
  rcases h with ⟨e, h⟩ | ⟨e, h⟩ | h | h <;> simp [Value.okWide, h, Cell.okWide, Cell.ok] at hv
 | _ => rfl
section
variable {w : World}
end
theorem and_t {a b : Bool} (ha : a = true) (hb : b = true) : (a && b) = true := by rw [ha, hb]; rfl
theorem own : ownKnob Tryz.prog.godebug = none := by kernel_rfl
theorem laidOut : laidOutB Tryz.prog = true := by kernel_rfl
section
variable {H : Type} {enc : TypeId × Value → H} {w : World} {r : Reach} {b0 base : Nat} {sp : Nat → Bool} {held : Bool} {v : Value} {d : DataW H} {ps : List MemPlace}
end
end Go.Vm
