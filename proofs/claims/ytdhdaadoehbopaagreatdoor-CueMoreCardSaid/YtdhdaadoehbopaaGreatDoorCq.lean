/-
  Machines that differ do so soon, on which this claim rests; no statement of the program is proved here. Conditions: none.
-/
import Derived.Test.YtdhdaadoehbopaaGreatDoorCo

namespace Go.Vm
section
variable {E : Type} (step : E → Nat → E) (out : E → Nat → Int) (k : Nat)
def trM : E → List Nat → List Int
 | _, [] => []
 | e, c :: l => out e c :: trM (step e c) l
def eqM (n : Nat) (e f : E) : Prop := ∀ l, OkL k l → l.length ≤ n → trM step out e l = trM step out f l
variable {step out k}
theorem eqM.less {n m : Nat} {e f : E} (h : eqM step out k n e f) (hm : m ≤ n) : eqM step out k m e f := fun l h1 h2 => h l h1 (by omega)
theorem eqM_succ {n : Nat} {e f : E} : eqM step out k (n + 1) e f ↔ (∀ c, c < k → out e c = out f c) ∧ ∀ c, c < k → eqM step out k n (step e c) (step f c) := by
 refine ⟨fun h => ⟨fun c hc => ?_, fun c hc l h1 h2 => ?_⟩, fun h l h1 h2 => ?_⟩
 ·have := h [c] (fun x hx => by rw [List.mem_singleton] at hx; omega) (by simp)
  have h0 : [out e c] = [out f c] := this
  injection h0
 ·have := h (c :: l) (fun x hx => by
   rcases List.mem_cons.1 hx with rfl | hx
   ·exact hc
   ·exact h1 x hx) (by simp; omega)
  have h0 : out e c :: trM step out (step e c) l = out f c :: trM step out (step f c) l := this
  injection h0
 ·cases l with
  | nil => rfl
  | cons c l =>
   have hc : c < k := h1 c (by simp)
   show out e c :: trM step out (step e c) l = out f c :: trM step out (step f c) l
   rw [h.1 c hc, h.2 c hc l (fun x hx => h1 x (by simp [hx])) (by simp at h2; omega)]
def StM (step : E → Nat → E) (out : E → Nat → Int) (k : Nat) (Q : List E) (n : Nat) : Prop := ∀ e ∈ Q, ∀ f ∈ Q, eqM step out k n e f → eqM step out k (n + 1) e f
theorem StM.next {Q : List E} (hQ : ∀ e ∈ Q, ∀ c, c < k → step e c ∈ Q) {n : Nat} (h : StM step out k Q n) : StM step out k Q (n + 1) := fun e he f hf hef => by
 obtain ⟨h1, h2⟩ := eqM_succ.1 hef
 exact eqM_succ.2 ⟨h1, fun c hc => h _ (hQ e he c hc) _ (hQ f hf c hc) (h2 c hc)⟩
theorem StM.all {Q : List E} (hQ : ∀ e ∈ Q, ∀ c, c < k → step e c ∈ Q) {n : Nat} (h : StM step out k Q n) {e f : E} (he : e ∈ Q) (hf : f ∈ Q) (hef : eqM step out k n e f) : ∀ m, eqM step out k (n + m) e f := by
 have key : ∀ m, StM step out k Q (n + m) := fun m => by
  induction m with
  | zero => exact h
  | succ m ih => exact ih.next hQ
 intro m
 induction m with
 | zero => exact hef
 | succ m ih => exact key m e he f hf ih
end
end Go.Vm

namespace Go.Vm
open Go.Proofs
structure TellR (v w : Vers) (k : Nat) (o : Option (List Nat)) : Prop where
 no : o = none → ∀ u, OkL k u → plays v 0 (cuesI u) = plays w 0 (cuesI u)
 yes : ∀ l, o = some l → OkL k l ∧ plays v 0 (cuesI l) ≠ plays w 0 (cuesI l) ∧ ∀ u, OkL k u → plays v 0 (cuesI u) ≠ plays w 0 (cuesI u) → LE l u
end Go.Vm
