/-
  Texts of the proof, part 16: the machine, contracts of functions, plain laws. (Own work.)
-/
import Derived.Test.YteefbiehcfmoeaaGreatDoorG14DalangLines
import Derived.OpenShut

namespace Go.Vm
open Go.Proofs
abbrev allOut (w : World) : Outer := ⟨fun b => match w.heap[b]? with
 | some (.cells C _ _) => some (some C.size)
 | some _ => some none
 | none => none⟩
def sit0 (w : World) : Sit := ⟨[], fun _ => none, w⟩
theorem allOut_lt {w : World} {b : Nat} {x : Option Nat} (h : (allOut w).out b = some x) : b < w.heap.size := by
 have h' : (match w.heap[b]? with | some (.cells C _ _) => some (some C.size) | some _ => some none | none => none) = some x := h
 cases hb : w.heap[b]? with
 | none => rw [hb] at h'; cases h'
 | some o => exact (Array.getElem?_eq_some_iff.1 hb).1
theorem allOut_at {w : World} {b : Nat} (h : b < w.heap.size) : ∃ x, (allOut w).out b = some x := by
 show ∃ x, (match w.heap[b]? with | some (.cells C _ _) => some (some C.size) | some _ => some none | none => none) = some x
 rw [Array.getElem?_eq_getElem h]
 split
 ·exact ⟨_, rfl⟩
 ·exact ⟨_, rfl⟩
 ·rename_i hh; cases hh
def TabW (w : World) : Prop := ∀ N C, tabO = some (N, C) → ∃ t f, w.heap[N]? = some (.cells C t f)
theorem rel0 (w : World) (ht : TabW w) : @Rel (allOut w) (sit0 w) :=
 @Rel.mk (allOut w) (sit0 w) (fun _ _ _ h => by cases h) (fun _ _ _ _ _ h _ => by cases h) (fun _ _ h => ⟨allOut_lt h, fun _ _ h => by cases h⟩) (fun N C e => by
  obtain ⟨t, f, h⟩ := ht N C e
  exact ⟨allOut_at (Array.getElem?_eq_some_iff.1 h).1, t, f, h⟩)
theorem fix0 {w : World} {b : Nat} {C : Array Value} {t : TypeId} {f : Nat × Nat} {lim : Nat} (h : w.heap[b]? = some (.cells C t f)) (hl : lim ≤ C.size) : @Fix (allOut w) (sit0 w) b lim := by
 refine ⟨C, t, f, h, hl, fun id wm e => (by cases e), fun x hx => ?_⟩
 have hx' : (match w.heap[b]? with | some (.cells C _ _) => some (some C.size) | some _ => some none | none => none) = some x := hx
 rw [h] at hx'
 cases hx'
 exact ⟨_, rfl, hl⟩
def RdC {α : Type} (P : Program) (w : World) (t : TypeId) (f : α → List AV) (G : α → Prop) : Prop :=
 ∀ (H : Type) (enc : TypeId × Value → H) base spare held fuel cs x, DataW.trod enc P w base spare held fuel t cs = some x → ∃ a, @VRels (allOut w) (sit0 w) (f a) cs ∧ G a
theorem RdC.int {P : Program} {w : World} {t : TypeId} (ht : P.underlying t = some (.int .i64)) : RdC P w t (fun n => [n' n]) (fun n => -9223372036854775808 ≤ n ∧ n ≤ 9223372036854775807) := by
 intro H enc base spare held fuel cs x h
 obtain ⟨n, rfl, _, hwf⟩ := DataW.trod_int ht h
 refine ⟨n, ?_, ?_⟩
 ·simp only [VRels, n', VRel, and_true]
 ·simp [Lit.wf, IntKind.min, IntKind.max, IntKind.signed, IntKind.bits] at hwf
  exact hwf
theorem cells_at {w : World} {base : Nat} {a : Addr} {n : Nat} {cs : List Value} (h : w.cells? base a n = some cs) : cs.length = n ∧ ∀ i, i < n → w.cell? (a.add i) = cs[i]? := by
 unfold World.cells? at h
 split at h
 ·have hl := mapM_some_length h
  rw [List.length_range] at hl
  exact ⟨hl.symm ▸ rfl, fun i hi => by simpa using mapM_some_get h i i (by simp [hi])⟩
 ·cases h
theorem RdC.slice {α : Type} {P : Program} {w : World} {t e : TypeId} {f : α → List AV} {G : α → Prop} {n : Nat} (ht : P.underlying t = some (.slice e)) (hc : P.cellsOf e = n) (hn : 0 < n) (_hf : ∀ a, (f a).length = n) (he : RdC P w e f G) :
  RdC P w t (fun l : List α => [.sl l.length (l.flatMap f) .unk]) (fun l => (∀ a ∈ l, G a) ∧ l.length ≤ maxLen) := by
 intro H enc base spare held fuel cs x h
 rcases DataW.trod_slice ht h with ⟨rfl, _⟩ | ⟨a, len, cap, elems, rest, m, _, rfl, _, _, hle, hcap, hel, hall, _, _⟩
 ·refine ⟨[], ?_, ?_, Nat.zero_le _⟩
  ·simp only [VRels, VRel, and_true]
   exact ⟨none, 0, rfl, Nat.le_refl _, .inl rfl, trivial⟩
  ·intro a h; cases h
 ·rw [hc] at hall
  have key : ∀ k, k ≤ len → ∃ l : List α, l.length = k ∧ (∀ a ∈ l, G a) ∧ ∃ cs : List Value, @VRels (allOut w) (sit0 w) (l.flatMap f) cs ∧ cs.length = k * n ∧ ∀ i c, cs[i]? = some c → w.cell? ⟨a.block, a.off + i, none⟩ = some c := by
   intro k
   induction k with
   | zero => intro _; exact ⟨[], rfl, fun _ h => (by cases h), [], (by simp [VRels]), (by simp), fun i c h => (by simp at h)⟩
   | succ k ih =>
    intro hk
    obtain ⟨l, h1, h2, cs, h3, h4, h5⟩ := ih (by omega)
    have hx := hall k (by omega)
    have hek : elems[k]? = some elems[k] := List.getElem?_eq_getElem (by omega)
    rw [hek] at hx
    obtain ⟨cs', g1, g2⟩ := Option.bind_eq_some_iff.1 hx
    obtain ⟨y, g3, g4⟩ := he H enc _ _ _ _ _ _ g2
    obtain ⟨g5, g6⟩ := cells_at g1
    refine ⟨l ++ [y], by simp [h1], fun b hb => ?_, cs ++ cs', ?_, by rw [List.length_append, h4, g5, Nat.succ_mul], fun i c hi => ?_⟩
    ·rcases List.mem_append.1 hb with hb | hb
     ·exact h2 b hb
     ·rw [List.mem_singleton] at hb; subst hb; exact g4
    ·rw [List.flatMap_append]
     refine @VRels.append (allOut w) _ _ _ _ _ h3 ?_
     simpa using g3
    ·rcases Nat.lt_or_ge i cs.length with hlt | hge
     ·rw [List.getElem?_append_left hlt] at hi
      exact h5 i c hi
     ·rw [List.getElem?_append_right hge] at hi
      have hlt : i - cs.length < n := by
       have := (List.getElem?_eq_some_iff.1 hi).1
       omega
      have g7 := g6 _ hlt
      rw [hi] at g7
      have hsome : ∀ (b : Addr), w.cell? b = some c → b.spot = none := by
       intro b hb
       unfold World.cell? at hb
       split at hb
       ·split at hb
        ·cases hb
        ·rename_i hs
         simpa using hs
       ·cases hb
      have hs := hsome _ g7
      have e : (a.add (k * n)).add (i - cs.length) = ⟨a.block, a.off + i, none⟩ := by
       have hb : ∀ (b : Addr) (j : Nat), (b.add j).block = b.block ∧ (b.add j).off = b.off + j := by
        intro b j
        unfold Addr.add
        split
        ·rename_i h; subst h; exact ⟨rfl, rfl⟩
        ·exact ⟨rfl, rfl⟩
       have e1 := hb (a.add (k * n)) (i - cs.length)
       have e2 := hb a (k * n)
       have e3 : ∀ (x y : Addr), x.block = y.block → x.off = y.off → x.spot = y.spot → x = y := by
        intro x y h1 h2 h3
        cases x; cases y; simp at h1 h2 h3; subst h1 h2 h3; rfl
       refine e3 _ _ ?_ ?_ hs
       ·rw [e1.1, e2.1]
       ·rw [e1.2, e2.2]; show a.off + k * n + (i - cs.length) = a.off + i; omega
      rw [e] at g7
      exact g7
  obtain ⟨l, h1, h2, cs, h3, h4, h5⟩ := key len (Nat.le_refl _)
  refine ⟨l, ?_, h2, by omega⟩
  subst h1
  simp only [VRels, VRel, and_true]
  refine ⟨some a, cap, rfl, hle, ?_, trivial⟩
  cases hl : l.flatMap f with
  | nil => exact .inl rfl
  | cons x xs =>
   rw [← hl]
   refine .inr ⟨a.block, a.off, ?_, ?_, @VRow.of_vals (allOut w) (sit0 w) _ _ _ _ h3 h5⟩
   ·have hpos : 0 < l.length := by
     cases l with
     | nil => simp at hl
     | cons => simp
    have hx := hall 0 hpos
    have hek : elems[0]? = some elems[0] := List.getElem?_eq_getElem (by omega)
    rw [hek] at hx
    obtain ⟨cs', g1, g2⟩ := Option.bind_eq_some_iff.1 hx
    obtain ⟨g5, g6⟩ := cells_at g1
    have g7 := g6 0 hn
    have : (cs'[0]?) = some cs'[0] := List.getElem?_eq_getElem (by omega)
    rw [this] at g7
    have e : ((a.add (0 * n)).add 0) = a := by
     rw [Nat.zero_mul]; unfold Addr.add; simp
    rw [e] at g7
    unfold World.cell? at g7
    split at g7
    ·split at g7
     ·cases g7
     ·rename_i hs
      have hs' : a.spot = none := by simpa using hs
      cases a; simp at hs'; subst hs'; rfl
    ·cases g7
   ·have hle2 : (l.flatMap f).length = l.length * n := by
     have := @VRels.length (allOut w) _ _ _ h3
     omega
    have hpos : 0 < (l.flatMap f).length := by rw [hl]; simp
    have hlast : cs[(l.flatMap f).length - 1]? = some (cs[(l.flatMap f).length - 1]'(by omega)) := List.getElem?_eq_getElem (by omega)
    have hcell := h5 _ _ hlast
    unfold World.cell? at hcell
    split at hcell
    ·rename_i C t' f' hb
     rw [if_neg (by simp)] at hcell
     have hlt : a.off + ((l.flatMap f).length - 1) < C.size := (Array.getElem?_eq_some_iff.1 hcell).1
     exact fix0 hb (by omega)
    ·cases hcell
theorem RdC.struct2 {α β : Type} {P : Program} {w : World} {t : TypeId} {f0 f1 : Field} {f : α → List AV} {g : β → List AV} {G : α → Prop} {G' : β → Prop} {n0 n1 : Nat} (ht : P.underlying t = some (.struct #[f0, f1])) (h0 : f0.offset = 0) (h1 : f1.offset = n0) (hc : P.cellsOf t = n0 + n1) (hc0 : P.cellsOf f0.type = n0) (hc1 : P.cellsOf f1.type = n1)
  (h : RdC P w f0.type f G) (h' : RdC P w f1.type g G') : RdC P w t (fun p : α × β => f p.1 ++ g p.2) (fun p => G p.1 ∧ G' p.2) := by
 intro H enc base spare held fuel cs x hx
 obtain ⟨xs, m, _, _, hl, hsz, hall⟩ := DataW.trod_struct ht hx
 have hsz' : xs.length = 2 := hsz
 have e0 := hall 0 f0 rfl
 have e1 := hall 1 f1 rfl
 rw [List.getElem?_eq_getElem (by omega), h0, List.drop_zero, hc0] at e0
 rw [List.getElem?_eq_getElem (by omega), h1, hc1] at e1
 obtain ⟨a, k1, k2⟩ := h H enc _ _ _ _ _ _ e0
 obtain ⟨b, k3, k4⟩ := h' H enc _ _ _ _ _ _ e1
 refine ⟨(a, b), ?_, k2, k4⟩
 have := @VRels.append (allOut w) _ _ _ _ _ k1 k3
 rw [List.take_of_length_le (l := cs.drop n0) (by rw [List.length_drop]; omega), List.take_append_drop] at this
 exact this
theorem RdC.as {α β : Type} {P : Program} {w : World} {t : TypeId} {f : α → List AV} {G : α → Prop} {f' : β → List AV} {G' : β → Prop} (h : RdC P w t f G) (m : α → β) (hf : ∀ a, G a → f a = f' (m a)) (hG : ∀ a, G a → G' (m a)) : RdC P w t f' G' := by
 intro H enc base spare held fuel cs x hx
 obtain ⟨a, h1, h2⟩ := h H enc _ _ _ _ _ _ hx
 exact ⟨m a, by rw [← hf a h2]; exact h1, hG a h2⟩
end Go.Vm
