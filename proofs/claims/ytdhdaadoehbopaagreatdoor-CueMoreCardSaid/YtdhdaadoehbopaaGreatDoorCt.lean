/-
  Searches by levels, and Join of the specification, for books and lists as told at each, in every heap. Conditions: at each theorem.
-/
import Derived.Test.YtdhdaadoehbopaaGreatDoorCo
import Derived.Test.YtdhdaadoehbopaaGreatDoorCf
import Derived.Test.YtdhdaadoehbopaaGreatDoorCs

namespace Go.Vm
section
variable {K : Type} {next : K → Nat → K} {done : K → Prop} {start : K} {c : Nat}
variable [DecidableEq K]
end
def stpK (key : List Nat → Nat) (s : List Nat × List (List Nat)) (m : List Nat) : List Nat × List (List Nat) := if key m ∈ s.1 then s else (s.1 ++ [key m], s.2 ++ [m])
section
variable {K : Type} (next : K → Nat → K) (done : K → Prop) (start : K) (c : Nat) (key : List Nat → Nat)
def nxO : Option K → Nat → Option K
 | none, d => some (next start d)
 | some y, d => some (next y d)
def dnO : Option K → Prop
 | none => done start
 | some y => done y
structure InvW (ks : List Nat) (lev : List (List Nat)) (n : Nat) : Prop where
 inv : ∃ met proc, InvO (nxO next start) (dnO done start) none c (lev.map fun l => (runB (nxO next start) none l, l)) met proc ∧ ∃ ls : List (List Nat), (∀ l ∈ ls, OkL c l ∧ ∃ l' d, l = l' ++ [d]) ∧ met = none :: ls.map (fun l => runB (nxO next start) none l) ∧ ks = ls.map key
 len : ∀ l ∈ lev, l.length = n ∧ OkL c l
 nodup : ks.Nodup
 few : lev.length ≤ ks.length + 1
 long : n ≤ ks.length ∨ lev = []
 keys : ∀ x ∈ ks, ∃ l, OkL c l ∧ x = key l
variable {next done start c key}
structure Adds (key : List Nat → Nat) (w : List (List Nat)) (ks : List Nat) (nx : List (List Nat)) (s : List Nat × List (List Nat)) : Prop where
 sub : ∀ m ∈ s.2, m ∈ nx ∨ m ∈ w
 nodup : ks.Nodup → s.1.Nodup
 keys : ∀ x ∈ s.1, x ∈ ks ∨ ∃ m ∈ w, x = key m
 many : s.1.length + nx.length = ks.length + s.2.length
theorem adds : ∀ (w : List (List Nat)) (ks : List Nat) (nx : List (List Nat)), Adds key w ks nx (w.foldl (stpK key) (ks, nx))
 | [], ks, nx => ⟨fun m h => .inl h, fun h => h, fun x h => .inl h, rfl⟩
 | m :: w, ks, nx => by
  rw [List.foldl_cons]
  by_cases hm : key m ∈ ks
  ·have e1 : stpK key (ks, nx) m = (ks, nx) := if_pos hm
   rw [e1]
   obtain ⟨a, b, d, e⟩ := adds w ks nx
   exact ⟨fun x hx => (a x hx).imp id fun h => by simp [h], b, fun x hx => (d x hx).imp id fun ⟨y, h1, h2⟩ => ⟨y, by simp [h1], h2⟩, e⟩
  ·have e1 : stpK key (ks, nx) m = (ks ++ [key m], nx ++ [m]) := if_neg hm
   rw [e1]
   obtain ⟨a, b, d, e⟩ := adds w (ks ++ [key m]) (nx ++ [m])
   refine ⟨fun x hx => ?_, fun h => b ?_, fun x hx => ?_, ?_⟩
   ·rcases a x hx with h | h
    ·rcases List.mem_append.1 h with h | h
     ·exact .inl h
     ·rw [List.mem_singleton] at h; subst h; exact .inr (by simp)
    ·exact .inr (by simp [h])
   ·refine List.nodup_append.2 ⟨h, by simp, fun a ha b hb hab => ?_⟩
    rw [List.mem_singleton] at hb
    subst hb hab
    exact hm ha
   ·rcases d x hx with h | ⟨y, h1, h2⟩
    ·rcases List.mem_append.1 h with h | h
     ·exact .inl h
     ·rw [List.mem_singleton] at h; exact .inr ⟨m, by simp, h⟩
    ·exact .inr ⟨y, by simp [h1], h2⟩
   ·rw [List.length_append, List.length_append] at e
    simp only [List.length_singleton] at e
    omega
end
end Go.Vm

namespace Go.Vm
open Go.Proofs
structure LeftOk (vs : List Vers) (L : List Int) : Prop where
 mem : ∀ n ∈ L, 0 ≤ n ∧ n < vs.length
 few : L.length ≤ 4
section
variable {vs : List Vers} {K : Nat} {L : List Int} (hv : ∀ v ∈ vs, VersOk v K) (hv0 : ∀ v ∈ vs, 0 < v.length) (hs : ∀ v ∈ vs, v.length ≤ 4) (hn : vs.length ≤ 4) (hL : LeftOk vs L)
end
end Go.Vm

namespace Go.Vm
open Go.Proofs
def alS (vs : List Vers) (K : Nat) (p q : Sta) : Prop := ∀ l, OkL K l → trM (stS vs) (ouS vs) p l = trM (stS vs) (ouS vs) q l
theorem alS.refl {vs : List Vers} {K : Nat} (p : Sta) : alS vs K p p := fun _ _ => rfl
theorem alS.symm {vs : List Vers} {K : Nat} {p q : Sta} (h : alS vs K p q) : alS vs K q p := fun l hl => (h l hl).symm
def nextJ (vs : List Vers) (p : Pos) (c : Nat) : Pos := ((nxI vs c 0 p.1.1, nxI vs c 1 p.1.2.1, nxI vs c 2 p.1.2.2.1, nxI vs c 3 p.1.2.2.2), (false, false, false, false, false, false))
def jRun (vs : List Vers) (L : List Int) (l : List Nat) : Pos := ((erI vs L l 0, erI vs L l 1, erI vs L l 2, erI vs L l 3), (false, false, false, false, false, false))
def pairS (vs : List Vers) (K : Nat) (m : Bool) (a b : Nat) (pa pb : Int) : Prop := 0 ≤ pa → 0 ≤ pb → m = true ∨ alS vs K (a, 0) (b, 0)
def doneS (vs : List Vers) (K : Nat) (p : Pos) : Prop :=
 pairS vs K p.2.1 1 0 p.1.2.1 p.1.1 ∧ pairS vs K p.2.2.1 2 0 p.1.2.2.1 p.1.1 ∧ pairS vs K p.2.2.2.1 2 1 p.1.2.2.1 p.1.2.1 ∧ pairS vs K p.2.2.2.2.1 3 0 p.1.2.2.2 p.1.1 ∧ pairS vs K p.2.2.2.2.2.1 3 1 p.1.2.2.2 p.1.2.1 ∧ pairS vs K p.2.2.2.2.2.2 3 2 p.1.2.2.2 p.1.2.2.1
def pairJ (vs : List Vers) (K : Nat) (a b : Nat) (pa pb : Int) : Prop := 0 ≤ pa → 0 ≤ pb → alS vs K (a, pa.toNat) (b, pb.toNat)
def doneJ (vs : List Vers) (K : Nat) (p : Pos) : Prop :=
 pairJ vs K 1 0 p.1.2.1 p.1.1 ∧ pairJ vs K 2 0 p.1.2.2.1 p.1.1 ∧ pairJ vs K 2 1 p.1.2.2.1 p.1.2.1 ∧ pairJ vs K 3 0 p.1.2.2.2 p.1.1 ∧ pairJ vs K 3 1 p.1.2.2.2 p.1.2.1 ∧ pairJ vs K 3 2 p.1.2.2.2 p.1.2.2.1
theorem six {P : Nat → Nat → Prop} : (P 1 0 ∧ P 2 0 ∧ P 2 1 ∧ P 3 0 ∧ P 3 1 ∧ P 3 2) ↔ ∀ a b, a < 4 → b < a → P a b := by
 constructor
 ·rintro ⟨h1, h2, h3, h4, h5, h6⟩ a b ha hb
  have : a = 1 ∧ b = 0 ∨ a = 2 ∧ b = 0 ∨ a = 2 ∧ b = 1 ∨ a = 3 ∧ b = 0 ∨ a = 3 ∧ b = 1 ∨ a = 3 ∧ b = 2 := by omega
  rcases this with ⟨rfl, rfl⟩ | ⟨rfl, rfl⟩ | ⟨rfl, rfl⟩ | ⟨rfl, rfl⟩ | ⟨rfl, rfl⟩ | ⟨rfl, rfl⟩ <;> assumption
 ·intro h
  exact ⟨h 1 0 (by omega) (by omega), h 2 0 (by omega) (by omega), h 2 1 (by omega) (by omega), h 3 0 (by omega) (by omega), h 3 1 (by omega) (by omega), h 3 2 (by omega) (by omega)⟩
section
variable {vs : List Vers} {K : Nat} {L : List Int} (hv : ∀ v ∈ vs, VersOk v K) (hv0 : ∀ v ∈ vs, 0 < v.length) (hs : ∀ v ∈ vs, v.length ≤ 4) (hn : vs.length ≤ 4) (hL : LeftOk vs L)
theorem LeftOk.nat (hL : LeftOk vs L) : ∀ n : Nat, (n : Int) ∈ L → n < vs.length := fun n h => by have := hL.mem _ h; omega
theorem vAt_in {a : Nat} (h : a < vs.length) : vAt vs a ∈ vs := by
 have e : vAt vs a = vs[a] := by simp [vAt, List.getD, List.getElem?_eq_getElem h]
 rw [e]
 exact List.getElem_mem h
include hv hv0 hL in
theorem jRun_next {c : Nat} {l : List Nat} (hl : OkL K l) (hc : c < K) : nextJ vs (jRun vs L l) c = jRun vs L (l ++ [c]) := by
 unfold jRun nextJ
 simp only [nx_run hv hv0 hL.nat _ hl hc]
include hv hv0 hL in
theorem jRun_pos (l : List Nat) : OkL K l → runB (nextJ vs) (jRun vs L []) l = jRun vs L l := by
 have key : ∀ m : List Nat, OkL K m.reverse → runB (nextJ vs) (jRun vs L []) m.reverse = jRun vs L m.reverse := fun m => by
  induction m with
  | nil => intro _; rfl
  | cons c m ih =>
   intro ho
   rw [List.reverse_cons] at ho ⊢
   have hm : OkL K m.reverse := fun x hx => ho x (by simp only [List.mem_append]; exact .inl hx)
   have hc : c < K := ho c (by simp)
   rw [runB_snoc, ih hm, jRun_next hv hv0 hL hm hc]
 have := key l.reverse
 rwa [List.reverse_reverse] at this
end
end Go.Vm

namespace Go.Vm
open Go.Proofs
section
variable {vs : List Vers} {K : Nat} {L : List Int} (hv : ∀ v ∈ vs, VersOk v K) (hv0 : ∀ v ∈ vs, 0 < v.length) (hs : ∀ v ∈ vs, v.length ≤ 4) (hn : vs.length ≤ 4) (hL : LeftOk vs L)
end
end Go.Vm
