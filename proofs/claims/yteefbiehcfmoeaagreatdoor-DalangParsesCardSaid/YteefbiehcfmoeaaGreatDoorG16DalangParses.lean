/-
  Texts of the proof, part 16: the machine, contracts of functions, plain laws. (Own work.)
-/
import Derived.Test.YteefbiehcfmoeaaGreatDoorG14DalangParses
import Derived.OpenShut

namespace Go.Vm
open Go.Proofs
abbrev allOut (w : World) : Outer := ⟨fun b => match w.heap[b]? with
 | some (.cells C _ _) => some (some C.size)
 | some _ => some none
 | none => none⟩
def sit0 (w : World) : Sit := ⟨[], fun _ => none, w⟩
theorem allOut_lt {w : World} {b : Nat} {x : Option Nat} (h : (allOut w).out b = some x) : b < w.heap.size := by
 have h' : (match w.heap[b]? with | some (.cells C _ _) => some (some C.size) | some _ => some none | none => none) = some x := h
 cases hb : w.heap[b]? with
 | none => rw [hb] at h'; cases h'
 | some o => exact (Array.getElem?_eq_some_iff.1 hb).1
theorem allOut_at {w : World} {b : Nat} (h : b < w.heap.size) : ∃ x, (allOut w).out b = some x := by
 show ∃ x, (match w.heap[b]? with | some (.cells C _ _) => some (some C.size) | some _ => some none | none => none) = some x
 rw [Array.getElem?_eq_getElem h]
 split
 ·exact ⟨_, rfl⟩
 ·exact ⟨_, rfl⟩
 ·rename_i hh; cases hh
def TabW (w : World) : Prop := ∀ N C, tabO = some (N, C) → ∃ t f, w.heap[N]? = some (.cells C t f)
theorem rel0 (w : World) (ht : TabW w) : @Rel (allOut w) (sit0 w) :=
 @Rel.mk (allOut w) (sit0 w) (fun _ _ _ h => by cases h) (fun _ _ _ _ _ h _ => by cases h) (fun _ _ h => ⟨allOut_lt h, fun _ _ h => by cases h⟩) (fun N C e => by
  obtain ⟨t, f, h⟩ := ht N C e
  exact ⟨allOut_at (Array.getElem?_eq_some_iff.1 h).1, t, f, h⟩)
def RdC {α : Type} (P : Program) (w : World) (t : TypeId) (f : α → List AV) (G : α → Prop) : Prop :=
 ∀ (H : Type) (enc : TypeId × Value → H) base spare held fuel cs x, DataW.trod enc P w base spare held fuel t cs = some x → ∃ a, @VRels (allOut w) (sit0 w) (f a) cs ∧ G a
end Go.Vm
