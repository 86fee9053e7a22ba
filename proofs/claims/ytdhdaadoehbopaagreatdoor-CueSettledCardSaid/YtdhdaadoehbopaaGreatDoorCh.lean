/-
  Contracts of functions of packages kelirlaw04, kelirref04, kelirref02, cue and slices, for books, evenings and lists as told at each, in every heap. Conditions: at each theorem. (What surely is played; lists of lists.)
-/
import Derived.Test.YtdhdaadoehbopaaGreatDoorCb
import Derived.Test.YtdhdaadoehbopaaGreatDoorVc

namespace Go.Vm
open Go.Proofs
theorem wk_ev0 (H : List Blk) : WeakH H (.agg [.lit (.slice none 0 0), .lit (.slice none 0 0)]) (eEvening ([], [])) := wk_agg (.cons (WeakH.nil) (.cons (WeakH.nil) .nil))
theorem remL_mem {vs : List Vers} {evs : List Evening} : ∀ {r : Nat} {j : Int}, j ∈ remL vs evs r → 0 ≤ j ∧ j < r
 | 0, _, h => by cases h
 | r + 1, j, h => by
  unfold remL at h
  split at h
  ·rcases List.mem_append.1 h with h | h
   ·have := remL_mem h; omega
   ·rw [List.mem_singleton] at h; omega
  ·have := remL_mem h; omega
theorem noted_nil (l : List Int) : Noted l [] := fun i h => by simp at h
theorem agrees_now {v : Vers} {evs : List Evening} : Agrees v (evs ++ [([], [])]) ↔ Agrees v evs :=
 ⟨fun h e he => h e (List.mem_append_left _ he), fun h e he => (List.mem_append.1 he).elim (h e) fun he => by rw [List.mem_singleton] at he; subst he; exact noted_nil _⟩
theorem remL_now (vs : List Vers) (evs : List Evening) : ∀ r, remL vs (evs ++ [([], [])]) r = remL vs evs r
 | 0 => rfl
 | r + 1 => by
  unfold remL
  rw [remL_now vs evs r]
  by_cases h : Agrees (vs.getD r []) evs
  ·rw [if_pos h, if_pos (agrees_now.2 h)]
  ·rw [if_neg h, if_neg (fun x => h (agrees_now.1 x))]
end Go.Vm

namespace Go.Vm
open Go.Proofs
theorem snoc_at {α : Type} {l : List α} {x y : α} {r : Nat} (h : (l ++ [x])[r]? = some y) : (r < l.length ∧ l[r]? = some y) ∨ (r = l.length ∧ y = x) := by
 rcases Nat.lt_or_ge r l.length with hlt | hge
 ·rw [List.getElem?_append_left hlt] at h; exact .inl ⟨hlt, h⟩
 ·rw [List.getElem?_append_right hge] at h
  have hl := (List.getElem?_eq_some_iff.1 h).1
  simp at hl
  have e : r = l.length := by omega
  subst e
  simp at h
  exact .inr ⟨rfl, h.symm⟩
theorem remL_rises {vs : List Vers} {evs : List Evening} : ∀ {n r : Nat} {x y : Int}, (remL vs evs n)[r]? = some x → (remL vs evs n)[r + 1]? = some y → x < y
 | 0, _, _, _, h, _ => by simp [remL] at h
 | n + 1, r, x, y, h, h' => by
  unfold remL at h h'
  split at h
  ·rename_i hag
   rw [if_pos hag] at h'
   rcases snoc_at h' with ⟨h1, h2⟩ | ⟨h1, h2⟩
   ·rcases snoc_at h with ⟨h3, h4⟩ | ⟨h3, h4⟩
    ·exact remL_rises h4 h2
    ·omega
   ·rcases snoc_at h with ⟨h3, h4⟩ | ⟨h3, h4⟩
    ·have := remL_mem (List.mem_of_getElem? h4)
     omega
    ·omega
  ·rename_i hag
   rw [if_neg hag] at h'
   exact remL_rises h h'
theorem remL_versL (b : Book) (evs : List Evening) : VersL b (remL b.vs evs b.vs.length) := by
 intro r hr
 have hx : (remL b.vs evs b.vs.length)[r]? = some (remL b.vs evs b.vs.length)[r] := List.getElem?_eq_getElem hr
 refine ⟨?_, fun h0 => ?_⟩
 ·rw [getD_of hx]
  have := remL_mem (List.mem_of_getElem? hx)
  unfold inI; omega
 ·have hy : (remL b.vs evs b.vs.length)[r - 1]? = some ((remL b.vs evs b.vs.length)[r - 1]'(by omega)) := List.getElem?_eq_getElem (by omega)
  rw [getD_of hx, getD_of hy]
  refine remL_rises hy ?_
  have e : r - 1 + 1 = r := by omega
  rw [e]; exact hx
end Go.Vm
