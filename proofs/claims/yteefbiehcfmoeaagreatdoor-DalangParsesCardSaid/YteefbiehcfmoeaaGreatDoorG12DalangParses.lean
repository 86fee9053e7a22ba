/-
  Texts of the proof, part 12: the machine, contracts of functions, plain laws. (Own work.)
-/
import Derived.Test.YteefbiehcfmoeaaGreatDoorG10DalangParses
import Derived.Test.YteefbiehcfmoeaaGreatDoorProg
import Derived.Tactics
import Derived.Tactics2
import Derived.Defers
import Derived.Recover
import Derived.Laws.Pointers
import Derived.KernelRfl
import Derived.WalkKit
import Derived.WalkSpells
import Derived.Laws.EntriesVeiled

namespace Go.Vm
open Go.Proofs Go.RowKit
theorem VRels.lits [Outer] {S : Sit} : ∀ {vs : List Value} {cs : List Value}, VRels S (vs.map .lit) cs → cs = vs
 | [], [], _ => rfl
 | [], _ :: _, h => by simp [VRels] at h
 | _ :: _, [], h => by simp [VRels] at h
 | v :: vs, c :: cs, h => by
  simp only [List.map_cons, VRels, VRel] at h
  rw [h.1, VRels.lits h.2]
theorem ACall.of_pure {P : Program} {f : FuncId} {vs : List Value} {r : Value} {H : List Blk} (h : ∀ w, Calls P f vs.toArray w fun e w' => e = .returned r ∧ w' = w) : ACall P f (vs.map .lit) H (.ret (.lit r)) H := by
 intro O ι w cs hR hargs
 have hcs : cs = vs.toArray := by rw [← VRels.lits hargs]
 subst hcs
 refine callsIn_wide.2 ((h w).mono ?_)
 rintro e w' ⟨rfl, rfl⟩
 exact ⟨ι, by simp [EndRel, VRel], hR, Ev.refl _, Non.refl _⟩
theorem ACall.of_below {P : Program} {f : FuncId} {args : List AV} {r : Value} {H : List Blk}
  (h : ∀ (_ : Outer) ι w (cs : Array Value), Rel ⟨H, ι, w⟩ → VRels ⟨H, ι, w⟩ args cs.toList → Calls P f cs w fun e w' => e = .returned r ∧ Below w.heap.size w w') : ACall P f args H (.ret (.lit r)) H := by
 intro O ι w cs hR hargs
 refine callsIn_wide.2 ((h O ι w cs hR hargs).mono ?_)
 rintro e w' ⟨rfl, hb⟩
 have hev := Ev.fresh hR (w' := w') (H2 := []) hb.block ⟨hb.os, hb.output⟩
 have hr := Rel.fresh hR (w' := w') (H2 := []) hb.block ⟨hb.os, hb.output⟩
 simp only [List.append_nil] at hev hr
 exact ⟨ι, by simp [EndRel, VRel], hr, hev, Non.same⟩
end Go.Vm
