/-
  Machines that differ do so soon, on which this claim rests; no statement of the program is proved here. Conditions: none.
-/
import Derived.Test.YtdhdaadoehbopaaGreatDoorCo

namespace Go.Vm
section
variable {E : Type} (step : E → Nat → E) (out : E → Nat → Int) (k : Nat)
def trM : E → List Nat → List Int
 | _, [] => []
 | e, c :: l => out e c :: trM (step e c) l
def eqM (n : Nat) (e f : E) : Prop := ∀ l, OkL k l → l.length ≤ n → trM step out e l = trM step out f l
variable {step out k}
theorem eqM.refl (n : Nat) (e : E) : eqM step out k n e e := fun _ _ _ => rfl
theorem eqM.symm {n : Nat} {e f : E} (h : eqM step out k n e f) : eqM step out k n f e := fun l h1 h2 => (h l h1 h2).symm
theorem eqM.trans {n : Nat} {e f g : E} (h : eqM step out k n e f) (h' : eqM step out k n f g) : eqM step out k n e g := fun l h1 h2 => (h l h1 h2).trans (h' l h1 h2)
theorem eqM.less {n m : Nat} {e f : E} (h : eqM step out k n e f) (hm : m ≤ n) : eqM step out k m e f := fun l h1 h2 => h l h1 (by omega)
theorem eqM_succ {n : Nat} {e f : E} : eqM step out k (n + 1) e f ↔ (∀ c, c < k → out e c = out f c) ∧ ∀ c, c < k → eqM step out k n (step e c) (step f c) := by
 refine ⟨fun h => ⟨fun c hc => ?_, fun c hc l h1 h2 => ?_⟩, fun h l h1 h2 => ?_⟩
 ·have := h [c] (fun x hx => by rw [List.mem_singleton] at hx; omega) (by simp)
  have h0 : [out e c] = [out f c] := this
  injection h0
 ·have := h (c :: l) (fun x hx => by
   rcases List.mem_cons.1 hx with rfl | hx
   ·exact hc
   ·exact h1 x hx) (by simp; omega)
  have h0 : out e c :: trM step out (step e c) l = out f c :: trM step out (step f c) l := this
  injection h0
 ·cases l with
  | nil => rfl
  | cons c l =>
   have hc : c < k := h1 c (by simp)
   show out e c :: trM step out (step e c) l = out f c :: trM step out (step f c) l
   rw [h.1 c hc, h.2 c hc l (fun x hx => h1 x (by simp [hx])) (by simp at h2; omega)]
def StM (step : E → Nat → E) (out : E → Nat → Int) (k : Nat) (Q : List E) (n : Nat) : Prop := ∀ e ∈ Q, ∀ f ∈ Q, eqM step out k n e f → eqM step out k (n + 1) e f
theorem StM.next {Q : List E} (hQ : ∀ e ∈ Q, ∀ c, c < k → step e c ∈ Q) {n : Nat} (h : StM step out k Q n) : StM step out k Q (n + 1) := fun e he f hf hef => by
 obtain ⟨h1, h2⟩ := eqM_succ.1 hef
 exact eqM_succ.2 ⟨h1, fun c hc => h _ (hQ e he c hc) _ (hQ f hf c hc) (h2 c hc)⟩
theorem StM.all {Q : List E} (hQ : ∀ e ∈ Q, ∀ c, c < k → step e c ∈ Q) {n : Nat} (h : StM step out k Q n) {e f : E} (he : e ∈ Q) (hf : f ∈ Q) (hef : eqM step out k n e f) : ∀ m, eqM step out k (n + m) e f := by
 have key : ∀ m, StM step out k Q (n + m) := fun m => by
  induction m with
  | zero => exact h
  | succ m ih => exact ih.next hQ
 intro m
 induction m with
 | zero => exact hef
 | succ m ih => exact key m e he f hf ih
theorem extM {Q : List E} {n : Nat} : ∀ (U R : List E), (∀ e ∈ U, e ∈ Q) → (∀ r ∈ R, r ∈ Q) → R.Pairwise (fun a b => ¬ eqM step out k n a b) →
  ∃ R' : List E, (∀ r ∈ R', r ∈ Q) ∧ R'.Pairwise (fun a b => ¬ eqM step out k n a b) ∧ R.length ≤ R'.length ∧ ∀ e ∈ U, ∃ r ∈ R', eqM step out k n r e
 | [], R, _, hR, hp => ⟨R, hR, hp, Nat.le_refl _, fun _ h => by cases h⟩
 | e :: U, R, hU, hR, hp => by
  obtain ⟨R', h1, h2, h3, h4⟩ := extM U R (fun x hx => hU x (by simp [hx])) hR hp
  by_cases hx : ∃ r ∈ R', eqM step out k n r e
  ·refine ⟨R', h1, h2, h3, fun y hy => ?_⟩
   rcases List.mem_cons.1 hy with rfl | hy
   ·exact hx
   ·exact h4 y hy
  ·refine ⟨e :: R', fun r hr => ?_, List.pairwise_cons.2 ⟨fun r hr her => hx ⟨r, hr, her.symm⟩, h2⟩, by rw [List.length_cons]; omega, fun y hy => ?_⟩
   ·rcases List.mem_cons.1 hr with rfl | hr
    ·exact hU r (by simp)
    ·exact h1 r hr
   ·rcases List.mem_cons.1 hy with rfl | hy
    ·exact ⟨y, by simp, eqM.refl n y⟩
    ·obtain ⟨r, hr, h5⟩ := h4 y hy
     exact ⟨r, by simp [hr], h5⟩
theorem moore {Q : List E} {e0 : E} (h0 : e0 ∈ Q) : ∀ n, (∃ m, m < n ∧ StM step out k Q m) ∨
  ∃ R : List E, (∀ r ∈ R, r ∈ Q) ∧ R.Pairwise (fun a b => ¬ eqM step out k n a b) ∧ n + 1 ≤ R.length ∧ ∀ e ∈ Q, ∃ r ∈ R, eqM step out k n r e
 | 0 => by
  obtain ⟨R, h1, h2, h3, h4⟩ := extM (step := step) (out := out) (k := k) (Q := Q) (n := 0) Q [e0] (fun _ h => h) (fun r hr => by rw [List.mem_singleton] at hr; subst hr; exact h0) (List.pairwise_singleton _ _)
  exact .inr ⟨R, h1, h2, by simpa using h3, h4⟩
 | n + 1 => by
  rcases moore h0 n with ⟨m, hm, hs⟩ | ⟨R, h1, h2, h3, h4⟩
  ·exact .inl ⟨m, by omega, hs⟩
  ·by_cases hst : StM step out k Q n
   ·exact .inl ⟨n, by omega, hst⟩
   ·refine .inr ?_
    unfold StM at hst
    simp only [Classical.not_forall] at hst
    obtain ⟨e, he, f, hf, hef, hne⟩ := hst
    obtain ⟨r, hr, hre⟩ := h4 e he
    have key : ∃ a ∈ Q, eqM step out k n r a ∧ ¬ eqM step out k (n + 1) r a := by
     by_cases h5 : eqM step out k (n + 1) r e
     ·exact ⟨f, hf, hre.trans hef, fun h6 => hne (h5.symm.trans h6)⟩
     ·exact ⟨e, he, hre, h5⟩
    obtain ⟨a, ha, hra, hna⟩ := key
    have hp : (a :: R).Pairwise (fun a b => ¬ eqM step out k (n + 1) a b) := by
     refine List.pairwise_cons.2 ⟨fun r' hr' h5 => ?_, h2.imp fun h5 h6 => h5 (h6.less (by omega))⟩
     have h6 : eqM step out k n r r' := hra.trans (h5.less (by omega))
     have h7 : r' = r := by
      apply Classical.byContradiction
      intro hne'
      obtain ⟨i, hi, rfl⟩ := List.getElem_of_mem hr
      obtain ⟨j, hj, rfl⟩ := List.getElem_of_mem hr'
      rcases Nat.lt_trichotomy i j with hij | hij | hij
      ·exact absurd h6 (List.pairwise_iff_getElem.1 h2 i j hi hj hij)
      ·subst hij; exact absurd rfl hne'
      ·exact absurd h6.symm (List.pairwise_iff_getElem.1 h2 j i hj hi hij)
     subst h7
     exact hna h5.symm
    obtain ⟨R', k1, k2, k3, k4⟩ := extM (step := step) (out := out) (k := k) (Q := Q) (n := n + 1) Q (a :: R) (fun _ h => h) (fun x hx => by
     rcases List.mem_cons.1 hx with rfl | hx
     ·exact ha
     ·exact h1 x hx) hp
    exact ⟨R', k1, k2, by rw [List.length_cons] at k3; omega, k4⟩
theorem differ_soon {Q : List E} (hQ : ∀ e ∈ Q, ∀ c, c < k → step e c ∈ Q) {e f : E} (he : e ∈ Q) (hf : f ∈ Q) {l : List Nat} (hl : OkL k l) (hd : trM step out e l ≠ trM step out f l) : ∃ l', OkL k l' ∧ l'.length < Q.length ∧ trM step out e l' ≠ trM step out f l' := by
 classical
 rcases moore (step := step) (out := out) (k := k) he Q.length with ⟨m, hm, hs⟩ | ⟨R, h1, h2, h3, _⟩
 ·apply Classical.byContradiction
  intro hno
  have hem : eqM step out k m e f := fun l' h5 h6 => by
   apply Classical.byContradiction
   intro h7
   exact hno ⟨l', h5, by omega, h7⟩
  exact hd (hs.all hQ he hf hem l.length l hl (by omega))
 ·have hn : R.Nodup := h2.imp fun h5 h6 => h5 (by rw [h6]; exact eqM.refl _ _)
  have := nodup_length hn h1
  omega
end
end Go.Vm

namespace Go.Vm
open Go.Proofs
def vStep (e : Vers × Nat) (c : Nat) : Vers × Nat := (e.1, (mv e.1 e.2 c).1.toNat)
def vOut (e : Vers × Nat) (c : Nat) : Int := (mv e.1 e.2 c).2
theorem tr_plays (v : Vers) : ∀ (l : List Nat) (s : Nat), trM vStep vOut (v, s) l = plays v s (cuesI l)
 | [], _ => rfl
 | c :: l, s => by
  show vOut (v, s) c :: trM vStep vOut (v, (mv v s c).1.toNat) l = (mv v s ((c : Int)).toNat).2 :: plays v (mv v s ((c : Int)).toNat).1.toNat (cuesI l)
  rw [tr_plays v l, Int.toNat_natCast]
  rfl
structure TellR (v w : Vers) (k : Nat) (o : Option (List Nat)) : Prop where
 no : o = none → ∀ u, OkL k u → plays v 0 (cuesI u) = plays w 0 (cuesI u)
 yes : ∀ l, o = some l → OkL k l ∧ plays v 0 (cuesI l) ≠ plays w 0 (cuesI l) ∧ ∀ u, OkL k u → plays v 0 (cuesI u) ≠ plays w 0 (cuesI u) → LE l u
end Go.Vm
