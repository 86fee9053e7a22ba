/-
  Settle of the specification and of package cue, by classes and a search by breadth, for books and evenings as told at each, in every heap. Conditions: at each theorem.
-/
import Derived.Test.YtdhdaadoehbopaaGreatDoorCu

namespace Go.Vm
open Go.Proofs
theorem key0 {n : Nat} (hn : n ≤ 3) : ∀ x ∈ [((n : Nat) : Int), 0], -1 ≤ x ∧ x ≤ 1000 := fun x hx => by
 rcases List.mem_cons.1 hx with h1 | h1
 ·omega
 ·rw [List.mem_singleton] at h1
  omega
theorem cl_zero {vs : List Vers} {cl : Sta → Nat} {n : Nat} {p : Int} (h : PosOk vs n p) (h0 : 0 ≤ p) : lookI (cE (allP vs) cl) [((n : Nat) : Int), 0] = some ((cl (n, 0) : Nat) : Int) := by
 rcases h with rfl | ⟨_, h2, h3⟩
 ·omega
 ·refine cE_look (s := 0) (allP_mem.2 ⟨h2, ?_⟩)
  show 0 < (vs.getD n []).length
  omega
def okS (cl : Sta → Nat) (m : Bool) (a b : Nat) (p q : Int) : Bool := m || (!(decide (0 ≤ p) && decide (0 ≤ q)) || decide (cl (a, 0) = cl (b, 0)))
def skB (cl : Sta → Nat) (p0 p1 p2 p3 : Int) (m0 m1 m2 m3 m4 m5 : Bool) (k : Nat) : Bool :=
 (decide (k ≤ 0) || okS cl m0 1 0 p1 p0) && ((decide (k ≤ 1) || okS cl m1 2 0 p2 p0) && ((decide (k ≤ 2) || okS cl m2 2 1 p2 p1) && ((decide (k ≤ 3) || okS cl m3 3 0 p3 p0) && ((decide (k ≤ 4) || okS cl m4 3 1 p3 p1) && (decide (k ≤ 5) || okS cl m5 3 2 p3 p2)))))
end Go.Vm

namespace Go.Vm
open Go.Proofs
def doneK (cl : Sta → Nat) (p : Pos) : Bool := skB cl p.1.1 p.1.2.1 p.1.2.2.1 p.1.2.2.2 p.2.1 p.2.2.1 p.2.2.2.1 p.2.2.2.2.1 p.2.2.2.2.2.1 p.2.2.2.2.2.2 6
end Go.Vm

namespace Go.Vm
open Go.Proofs
theorem okS_iff {vs : List Vers} {K : Nat} {cl : Sta → Nat} (hcl : ∀ p ∈ allP vs, ∀ q ∈ allP vs, (cl p = cl q ↔ alS vs K p q)) {a b : Nat} {p q : Int} (m : Bool) (hp : PosOk vs a p) (hq : PosOk vs b q) : okS cl m a b p q = true ↔ pairS vs K m a b p q := by
 have key : ∀ {n : Nat} {x : Int}, PosOk vs n x → 0 ≤ x → (n, 0) ∈ allP vs := fun {n x} h h0 => by
  rcases h with rfl | ⟨_, h2, h3⟩
  ·omega
  ·refine allP_mem.2 ⟨h2, ?_⟩
   show 0 < (vs.getD n []).length
   omega
 unfold okS pairS
 by_cases h1 : 0 ≤ p
 ·by_cases h2 : 0 ≤ q
  ·have := hcl _ (key hp h1) _ (key hq h2)
   simp [h1, h2, this]
  ·simp [h2]
 ·simp [h1]
theorem doneK_iff {vs : List Vers} {K : Nat} {cl : Sta → Nat} (hcl : ∀ p ∈ allP vs, ∀ q ∈ allP vs, (cl p = cl q ↔ alS vs K p q)) {p : Pos} (hp : PosK vs p) : doneK cl p = true ↔ doneS vs K p := by
 obtain ⟨h0, h1, h2, h3⟩ := hp
 have e1 := okS_iff hcl p.2.1 h1 h0
 have e2 := okS_iff hcl p.2.2.1 h2 h0
 have e3 := okS_iff hcl p.2.2.2.1 h2 h1
 have e4 := okS_iff hcl p.2.2.2.2.1 h3 h0
 have e5 := okS_iff hcl p.2.2.2.2.2.1 h3 h1
 have e6 := okS_iff hcl p.2.2.2.2.2.2 h3 h2
 unfold doneK skB doneS
 rw [← e1, ← e2, ← e3, ← e4, ← e5, ← e6]
 simp
end Go.Vm
