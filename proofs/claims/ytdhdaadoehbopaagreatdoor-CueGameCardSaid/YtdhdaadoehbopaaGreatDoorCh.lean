/-
  Contracts of functions of packages kelirlaw04, kelirref04, kelirref02, cue and slices, for books, evenings and lists as told at each, in every heap. Conditions: at each theorem. (What surely is played; lists of lists.)
-/
import Derived.Test.YtdhdaadoehbopaaGreatDoorCb
import Derived.Test.YtdhdaadoehbopaaGreatDoorVc

namespace Go.Vm
open Go.Proofs
theorem wk_ev0 (H : List Blk) : WeakH H (.agg [.lit (.slice none 0 0), .lit (.slice none 0 0)]) (eEvening ([], [])) := wk_agg (.cons (WeakH.nil) (.cons (WeakH.nil) .nil))
theorem remL_mem {vs : List Vers} {evs : List Evening} : ∀ {r : Nat} {j : Int}, j ∈ remL vs evs r → 0 ≤ j ∧ j < r
 | 0, _, h => by cases h
 | r + 1, j, h => by
  unfold remL at h
  split at h
  ·rcases List.mem_append.1 h with h | h
   ·have := remL_mem h; omega
   ·rw [List.mem_singleton] at h; omega
  ·have := remL_mem h; omega
theorem noted_nil (l : List Int) : Noted l [] := fun i h => by simp at h
theorem agrees_now {v : Vers} {evs : List Evening} : Agrees v (evs ++ [([], [])]) ↔ Agrees v evs :=
 ⟨fun h e he => h e (List.mem_append_left _ he), fun h e he => (List.mem_append.1 he).elim (h e) fun he => by rw [List.mem_singleton] at he; subst he; exact noted_nil _⟩
theorem remL_now (vs : List Vers) (evs : List Evening) : ∀ r, remL vs (evs ++ [([], [])]) r = remL vs evs r
 | 0 => rfl
 | r + 1 => by
  unfold remL
  rw [remL_now vs evs r]
  by_cases h : Agrees (vs.getD r []) evs
  ·rw [if_pos h, if_pos (agrees_now.2 h)]
  ·rw [if_neg h, if_neg (fun x => h (agrees_now.1 x))]
end Go.Vm

namespace Go.Vm
open Go.Proofs
end Go.Vm
