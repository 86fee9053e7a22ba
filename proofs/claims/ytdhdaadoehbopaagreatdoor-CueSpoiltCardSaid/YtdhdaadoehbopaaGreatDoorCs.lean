/-
  Reduced versions, on which this claim rests; no statement of the program is proved here. Conditions: none.
-/
import Derived.Test.YtdhdaadoehbopaaGreatDoorCo
import Derived.Test.YtdhdaadoehbopaaGreatDoorCp
import Derived.Test.YtdhdaadoehbopaaGreatDoorCq
import Derived.Test.YtdhdaadoehbopaaGreatDoorCb
import Derived.Test.YtdhdaadoehbopaaGreatDoorCa

namespace Go.Vm
open Go.Proofs
section
variable (al : Nat → Nat → Bool)
def plcB : List Nat → Nat → Option Nat
 | [], _ => none
 | x :: l, n => if al x n = true then some 0 else (plcB l n).map (· + 1)
def insB (S : List Nat) (n : Nat) : List Nat := if (plcB al S n).isSome then S else S ++ [n]
variable (v : Vers) (K : Nat)
def nxS (a c : Nat) : Nat := (mv v a c).1.toNat
def rowF (S : List Nat) (i : Nat) : Nat → List Nat
 | 0 => S
 | c + 1 => insB al (rowF S i c) (nxS v (S.getD i 0) c)
def stF : Nat → List Nat
 | 0 => [0]
 | i + 1 => rowF al v (stF i) i K
structure Exit (N : Nat) : Prop where
 on : ∀ i, i < N → i < (stF al v K i).length
 off : (stF al v K N).length ≤ N
end
section
variable {al : Nat → Nat → Bool}
variable {v : Vers} {K : Nat}
variable (hnx : ∀ x, x < v.length → ∀ c, c < K → nxS v x c < v.length)
include hnx
omit hnx
end
end Go.Vm

namespace Go.Vm
open Go.Proofs
set_option maxRecDepth 100000 in
theorem structEq_moves (a b c d : Int) : structEq Tryz.prog 116 (.agg [n' a, n' b]) (.agg [n' c, n' d]) = (if a == c then (if b == d then some true else some false) else some false) := by kernel_rfl
set_option maxRecDepth 100000 in
theorem binB_moves (a b c d : Int) : binB Tryz.prog .neq 116 (.agg [n' a, n' b]) (.agg [n' c, n' d]) = some (.lit (.bool (decide ((a, b) ≠ (c, d))))) := by
 have e : binB Tryz.prog .neq 116 (.agg [n' a, n' b]) (.agg [n' c, n' d]) = (match structEq Tryz.prog 116 (.agg [n' a, n' b]) (.agg [n' c, n' d]) with
  | some b => some (.lit (.bool !b))
  | none => none) := by
  unfold binB
  show (match BinOp.neq, structEq Tryz.prog 116 _ _ with
   | .eql, some b => some (AV.lit (.bool b))
   | .neq, some b => some (.lit (.bool !b))
   | _, _ => none) = _
  cases structEq Tryz.prog 116 (.agg [n' a, n' b]) (.agg [n' c, n' d]) <;> rfl
 rw [e, structEq_moves]
 by_cases h1 : a = c
 ·by_cases h2 : b = d
  ·simp [h1, h2]
  ·simp [h1, h2]
 ·simp [h1]
set_option maxRecDepth 100000 in
theorem c_sameVersions (a b : Vers) (ha : a.length ≤ 1000000) (ha2 : ∀ s ∈ a, s.length ≤ 1000000) (hb : b.length ≤ 1000000) (hb2 : ∀ s ∈ b, s.length ≤ 1000000) (H : List Blk) :
  ACall Tryz.prog 66 [eVersion a, eVersion b] H (.ret (.lit (.bool (decide (a = b))))) H := by
 refine fn_rule (m := false) (fn := Tryz.f66) (c := (Tryz.f66.body).getD .skip) mixed (by kernel_rfl) (by kernel_rfl) (of_decide_eq_true (by kernel_rfl)) ?_ ?_ ?_ H
 ·exact ⟨under_eVersion 0 _, under_eVersion 0 _, trivial⟩
 ·trivial
 ·refine If.mk (fun h0 => ?_) (fun h0 => ?_)
  ·refine ifN ?_
   have hl : a.length = b.length := by omega
   refine LoopG.at (n0 := 2) rfl (loop_up mixed (m := false) (fun r => [(2, .ptr 0 0), (3, .ptr 1 0), (5, n' r)]) (fun _ => [(0, vBox a), (1, vBox b)]) (fun r => a.take r = b.take r) a.length 2 (leb rfl) rfl ?_ ?_ ?_)
   ·exact ⟨wp rfl (ltb rfl), wp rfl (ltb rfl), wp rfl trivial, trivial⟩
   ·exact ⟨bk rfl rfl, bk rfl rfl, trivial⟩
   ·intro r hr hI
    refine If.mk (fun h1 => ?_) (fun h1 => ?_)
    ·refine ifY ?_
     have hra : r < a.length := by omega
     have hrb : r < b.length := by omega
     have hsa := ha2 _ (List.getElem_mem hra)
     have hsb := hb2 _ (List.getElem_mem hrb)
     have ga := List.getElem?_eq_getElem hra
     have gb := List.getElem?_eq_getElem hrb
     generalize hx : a[r] = x at hsa ga
     generalize hy : b[r] = y at hsb gb
     have ta : a.take (r + 1) = a.take r ++ [x] := by rw [List.take_add_one, ga]; rfl
     have tb : b.take (r + 1) = b.take r ++ [y] := by rw [List.take_add_one, gb]; rfl
     have hne : x ≠ y → a ≠ b := fun h e => by
      subst e
      rw [ga] at gb
      exact h (Option.some.inj gb)
     refine Ex.mk _ (jx_states (r := r) rfl ga) ?_
     refine Ex.mk _ rfl ?_
     refine Ex.mk _ (jx_states (r := r) rfl gb) ?_
     refine Ex.mk _ rfl ?_
     refine If.mk (fun h2 => ?_) (fun h2 => ?_)
     ·refine ifN ?_
      have hxy : x.length = y.length := by omega
      refine LoopG.at (n0 := 15) rfl (loop_up mixed (m := false) (fun q => [(2, .ptr 0 0), (3, .ptr 1 0), (5, n' r), (6, n' q)]) (fun _ => [(0, vBox a), (1, vBox b)]) (fun q => x.take q = y.take q) x.length 2 (leb rfl) rfl ?_ ?_ ?_)
      ·exact ⟨wp rfl (ltb rfl), wp rfl (ltb rfl), wp rfl trivial, wp rfl trivial, trivial⟩
      ·exact ⟨bk rfl rfl, bk rfl rfl, trivial⟩
      ·intro q hq hJ
       refine Ex.mk _ (jx_states (r := r) rfl ga) ?_
       refine Ex.mk _ rfl ?_
       refine If.mk (fun h3 => ?_) (fun h3 => ?_)
       ·refine ifY ?_
        have hqx : q < x.length := by omega
        have hqy : q < y.length := by omega
        have gx := List.getElem?_eq_getElem hqx
        have gy := List.getElem?_eq_getElem hqy
        generalize hu : x[q] = u at gx
        generalize hw : y[q] = w at gy
        refine Ex.mk _ (jx_states (r := r) rfl ga) ?_
        refine Ex.mk _ rfl ?_
        refine Ex.mk _ (jx_moves (r := q) rfl gx) ?_
        refine Ex.mk _ rfl ?_
        refine Ex.mk _ (jx_states (r := r) rfl gb) ?_
        refine Ex.mk _ rfl ?_
        refine Ex.mk _ (jx_moves (r := q) rfl gy) ?_
        refine Ex.mk _ rfl ?_
        refine NowR.of (binB_moves _ _ _ _) ?_
        have hne2 : u ≠ w → a ≠ b := fun h => hne fun e => by
         rw [e, gy] at gx
         exact h (Option.some.inj gx).symm
        refine IfB.mk (fun h4 => ?_) (fun h4 => ?_)
        ·have h4' : u ≠ w := fun e => by simp [e] at h4
         exact ⟨leb rfl, leb rfl, .inl rfl, FinG.no rfl rfl (hne2 h4')⟩
        ·have h4' : u = w := by
          have h5 : (u.1, u.2) = (w.1, w.2) := by simpa using h4
          exact h5
         refine Side.mk (fits64 (by omega)) ?_
         refine ⟨leb rfl, rfl, by omega, ?_, ⟨wp rfl (ltb rfl), wp rfl (ltb rfl), wp rfl trivial, wp rfl trivial, trivial⟩, ⟨bk rfl rfl, bk rfl rfl, trivial⟩, trivial⟩
         show x.take (q + 1) = y.take (q + 1)
         rw [List.take_add_one, List.take_add_one, hJ, gx, gy, h4']
       ·refine ifN ?_
        have hxy2 : x = y := by
         rw [List.take_of_length_le (by omega), List.take_of_length_le (by omega)] at hJ
         exact hJ
        refine ⟨leb rfl, ?_⟩
        refine Side.mk (fits64 (by omega)) ?_
        refine ⟨leb rfl, rfl, by omega, ?_, ⟨wp rfl (ltb rfl), wp rfl (ltb rfl), wp rfl trivial, trivial⟩, ⟨bk rfl rfl, bk rfl rfl, trivial⟩, trivial⟩
        show a.take (r + 1) = b.take (r + 1)
        rw [ta, tb, hI, hxy2]
     ·refine ifY ?_
      exact ⟨leb rfl, .inl rfl, FinG.no rfl rfl (hne fun e => h2 (by rw [e]))⟩
    ·refine ifN ?_
     have hab : a = b := by
      rw [List.take_of_length_le (by omega), List.take_of_length_le (by omega)] at hI
      exact hI
     exact ⟨leb rfl, .inl rfl, FinG.yes rfl rfl hab⟩
  ·refine ifY ?_
   refine ⟨.inl rfl, FinG.no rfl rfl (fun e => h0 (by rw [e]))⟩
end Go.Vm
