/-
  Contracts of functions of package cue about positions of several versions and a search by breadth over them, for books as told at each, in every heap; and plain mathematics on such searches and on machines that differ. Conditions: at each theorem.
-/
import Derived.Test.YtdhdaadoehbopaaGreatDoorCb
import Derived.Test.YtdhdaadoehbopaaGreatDoorVc
import Derived.Test.YtdhdaadoehbopaaGreatDoorCo
import Derived.Test.YtdhdaadoehbopaaGreatDoorCq

namespace Go.Vm
open Go.Proofs
def maskI (a b c d e f : Bool) : Int := (if a then 1 else 0) + (if b then 2 else 0) + (if c then 4 else 0) + (if d then 8 else 0) + (if e then 16 else 0) + (if f then 32 else 0)
def PosOk (vs : List Vers) (n : Nat) (p : Int) : Prop := p = -1 ∨ 0 ≤ p ∧ n < vs.length ∧ p < (vs.getD n []).length
def posC (p0 p1 p2 p3 : Int) (m0 m1 m2 m3 m4 m5 : Bool) : List AV := [n' p0, n' p1, n' p2, n' p3, n' (maskI m0 m1 m2 m3 m4 m5)]
theorem under_posC (n : Nat) (p0 p1 p2 p3 : Int) (m0 m1 m2 m3 m4 m5 : Bool) : AV.unders n (posC p0 p1 p2 p3 m0 m1 m2 m3 m4 m5) := ⟨trivial, trivial, trivial, trivial, trivial, trivial⟩
def kk (a : Nat) : Nat := [0, 0, 1, 3, 6].getD a 0
end Go.Vm

namespace Go.Vm
open Go.Proofs
end Go.Vm

namespace Go.Vm
open Go.Proofs
def bgI (l : List Int) (n : Nat) : Int := if (n : Int) ∈ l then 0 else -1
def bgR (l : List Int) (r n : Nat) : Int := if n < r then bgI l n else 0
set_option maxHeartbeats 4000000 in
set_option maxRecDepth 100000 in
theorem c_posBegun (l : List Int) (hl : l.length < 4611686018427387904) (H : List Blk) : ACall Tryz.prog 105 [eInts l] H (.ret (.agg (posC (bgI l 0) (bgI l 1) (bgI l 2) (bgI l 3) false false false false false false))) H := by
 refine fn_rule (m := false) (fn := Tryz.f105) (c := (Tryz.f105.body).getD .skip) mixed (by kernel_rfl) (by kernel_rfl) (of_decide_eq_true (by kernel_rfl)) ?_ ?_ ?_ H
 ·exact ⟨under_eInts 0 _, trivial⟩
 ·exact under_posC 0 _ _ _ _ _ _ _ _ _ _
 ·refine LoopG.at (n0 := 2) rfl (loop_up mixed (m := false) (fun r => [(0, eInts l), (2, .ptr 0 0), (3, .ptr 1 0), (5, n' r)]) (fun r => [(0, .box [n' 0, n' 0, n' 0, n' 0, n' 0] 130), (1, .box [n' (bgR l r 0), n' (bgR l r 1), n' (bgR l r 2), n' (bgR l r 3), n' 0] 130)]) (fun _ => True) 4 1 (leb rfl) trivial ?_ ?_ ?_)
  ·exact ⟨⟨_, rfl, Weak.refl _ _, under_eInts _ _⟩, wp rfl (ltb rfl), wp rfl (ltb rfl), wp rfl trivial, trivial⟩
  ·exact ⟨bk rfl rfl, bk rfl rfl, trivial⟩
  ·intro r hr _
   have hr4 : r = 0 ∨ r = 1 ∨ r = 2 ∨ r = 3 ∨ r = 4 := by omega
   rcases hr4 with rfl | rfl | rfl | rfl | rfl
   ·refine If.mk (fun _ => ?_) (fun h => absurd (by decide) h)
    refine ifY ?_
    refine CallG.bool (c_contains l (0 : Nat) hl) (fun h => ?_) (fun h => ?_)
    ·refine ifN ?_
     refine Side.mk (by unfold fitsK; kernel_rfl) ?_
     refine ⟨leb rfl, rfl, by omega, trivial, ⟨⟨_, rfl, Weak.refl _ _, under_eInts _ _⟩, wp rfl (ltb rfl), wp rfl (ltb rfl), wp rfl trivial, trivial⟩, ⟨bk rfl rfl, ⟨?_, ltb rfl⟩, trivial⟩, trivial⟩
     have e : bgI l 0 = 0 := if_pos h
     show some (Blk.box [n' (bgR l 0 0), n' (bgR l 0 1), n' (bgR l 0 2), n' (bgR l 0 3), n' 0] 130) = _
     simp [bgR, e]
    ·refine ifY ?_
     refine Side.mk (by unfold fitsK; kernel_rfl) ?_
     refine ⟨leb rfl, rfl, by omega, trivial, ⟨⟨_, rfl, Weak.refl _ _, under_eInts _ _⟩, wp rfl (ltb rfl), wp rfl (ltb rfl), wp rfl trivial, trivial⟩, ⟨bk rfl rfl, ⟨?_, ltb rfl⟩, trivial⟩, ⟨_, rfl, trivial, trivial, trivial, trivial, trivial, trivial⟩, trivial⟩
     have e : bgI l 0 = -1 := if_neg h
     show some (Blk.box [n' (-1), n' (bgR l 0 1), n' (bgR l 0 2), n' (bgR l 0 3), n' 0] 130) = _
     simp [bgR, e]
   ·refine If.mk (fun _ => ?_) (fun h => absurd (by decide) h)
    refine ifY ?_
    refine CallG.bool (c_contains l (1 : Nat) hl) (fun h => ?_) (fun h => ?_)
    ·refine ifN ?_
     refine Side.mk (by unfold fitsK; kernel_rfl) ?_
     refine ⟨leb rfl, rfl, by omega, trivial, ⟨⟨_, rfl, Weak.refl _ _, under_eInts _ _⟩, wp rfl (ltb rfl), wp rfl (ltb rfl), wp rfl trivial, trivial⟩, ⟨bk rfl rfl, ⟨?_, ltb rfl⟩, trivial⟩, trivial⟩
     have e : bgI l 1 = 0 := if_pos h
     show some (Blk.box [n' (bgR l 1 0), n' (bgR l 1 1), n' (bgR l 1 2), n' (bgR l 1 3), n' 0] 130) = _
     simp [bgR, e]
    ·refine ifY ?_
     refine Side.mk (by unfold fitsK; kernel_rfl) ?_
     refine ⟨leb rfl, rfl, by omega, trivial, ⟨⟨_, rfl, Weak.refl _ _, under_eInts _ _⟩, wp rfl (ltb rfl), wp rfl (ltb rfl), wp rfl trivial, trivial⟩, ⟨bk rfl rfl, ⟨?_, ltb rfl⟩, trivial⟩, ⟨_, rfl, trivial, trivial, trivial, trivial, trivial, trivial⟩, trivial⟩
     have e : bgI l 1 = -1 := if_neg h
     show some (Blk.box [n' (bgR l 1 0), n' (-1), n' (bgR l 1 2), n' (bgR l 1 3), n' 0] 130) = _
     simp [bgR, e]
   ·refine If.mk (fun _ => ?_) (fun h => absurd (by decide) h)
    refine ifY ?_
    refine CallG.bool (c_contains l (2 : Nat) hl) (fun h => ?_) (fun h => ?_)
    ·refine ifN ?_
     refine Side.mk (by unfold fitsK; kernel_rfl) ?_
     refine ⟨leb rfl, rfl, by omega, trivial, ⟨⟨_, rfl, Weak.refl _ _, under_eInts _ _⟩, wp rfl (ltb rfl), wp rfl (ltb rfl), wp rfl trivial, trivial⟩, ⟨bk rfl rfl, ⟨?_, ltb rfl⟩, trivial⟩, trivial⟩
     have e : bgI l 2 = 0 := if_pos h
     show some (Blk.box [n' (bgR l 2 0), n' (bgR l 2 1), n' (bgR l 2 2), n' (bgR l 2 3), n' 0] 130) = _
     simp [bgR, e]
    ·refine ifY ?_
     refine Side.mk (by unfold fitsK; kernel_rfl) ?_
     refine ⟨leb rfl, rfl, by omega, trivial, ⟨⟨_, rfl, Weak.refl _ _, under_eInts _ _⟩, wp rfl (ltb rfl), wp rfl (ltb rfl), wp rfl trivial, trivial⟩, ⟨bk rfl rfl, ⟨?_, ltb rfl⟩, trivial⟩, ⟨_, rfl, trivial, trivial, trivial, trivial, trivial, trivial⟩, trivial⟩
     have e : bgI l 2 = -1 := if_neg h
     show some (Blk.box [n' (bgR l 2 0), n' (bgR l 2 1), n' (-1), n' (bgR l 2 3), n' 0] 130) = _
     simp [bgR, e]
   ·refine If.mk (fun _ => ?_) (fun h => absurd (by decide) h)
    refine ifY ?_
    refine CallG.bool (c_contains l (3 : Nat) hl) (fun h => ?_) (fun h => ?_)
    ·refine ifN ?_
     refine Side.mk (by unfold fitsK; kernel_rfl) ?_
     refine ⟨leb rfl, rfl, by omega, trivial, ⟨⟨_, rfl, Weak.refl _ _, under_eInts _ _⟩, wp rfl (ltb rfl), wp rfl (ltb rfl), wp rfl trivial, trivial⟩, ⟨bk rfl rfl, ⟨?_, ltb rfl⟩, trivial⟩, trivial⟩
     have e : bgI l 3 = 0 := if_pos h
     show some (Blk.box [n' (bgR l 3 0), n' (bgR l 3 1), n' (bgR l 3 2), n' (bgR l 3 3), n' 0] 130) = _
     simp [bgR, e]
    ·refine ifY ?_
     refine Side.mk (by unfold fitsK; kernel_rfl) ?_
     refine ⟨leb rfl, rfl, by omega, trivial, ⟨⟨_, rfl, Weak.refl _ _, under_eInts _ _⟩, wp rfl (ltb rfl), wp rfl (ltb rfl), wp rfl trivial, trivial⟩, ⟨bk rfl rfl, ⟨?_, ltb rfl⟩, trivial⟩, ⟨_, rfl, trivial, trivial, trivial, trivial, trivial, trivial⟩, trivial⟩
     have e : bgI l 3 = -1 := if_neg h
     show some (Blk.box [n' (bgR l 3 0), n' (bgR l 3 1), n' (bgR l 3 2), n' (-1), n' 0] 130) = _
     simp [bgR, e]
   ·refine If.mk (fun h => absurd h (by decide)) (fun _ => ?_)
    refine ifN ?_
    refine ⟨leb rfl, ?_⟩
    refine ⟨.inl rfl, FinG.mk _ rfl rfl ?_⟩
    show AV.agg [n' (bgR l 4 0), n' (bgR l 4 1), n' (bgR l 4 2), n' (bgR l 4 3), n' 0] = _
    simp [bgR, posC, maskI]
end Go.Vm

namespace Go.Vm
open Go.Proofs
abbrev Pos := (Int × Int × Int × Int) × (Bool × Bool × Bool × Bool × Bool × Bool)
def posA (p : Pos) : List AV := posC p.1.1 p.1.2.1 p.1.2.2.1 p.1.2.2.2 p.2.1 p.2.2.1 p.2.2.2.1 p.2.2.2.2.1 p.2.2.2.2.2.1 p.2.2.2.2.2.2
theorem under_posA (n : Nat) (p : Pos) : AV.unders n (posA p) := under_posC n _ _ _ _ _ _ _ _ _ _
def maskP (p : Pos) : Int := maskI p.2.1 p.2.2.1 p.2.2.2.1 p.2.2.2.2.1 p.2.2.2.2.2.1 p.2.2.2.2.2.2
def posV (p : Pos) : Value := .agg #[.int .i64 p.1.1, .int .i64 p.1.2.1, .int .i64 p.1.2.2.1, .int .i64 p.1.2.2.2, .int .i64 (maskP p)]
def PosK (vs : List Vers) (p : Pos) : Prop := PosOk vs 0 p.1.1 ∧ PosOk vs 1 p.1.2.1 ∧ PosOk vs 2 p.1.2.2.1 ∧ PosOk vs 3 p.1.2.2.2
theorem maskI_inj : ∀ {a b c d e f a' b' c' d' e' f' : Bool}, maskI a b c d e f = maskI a' b' c' d' e' f' → a = a' ∧ b = b' ∧ c = c' ∧ d = d' ∧ e = e' ∧ f = f' := by
 intro a b c d e f a' b' c' d' e' f' h
 unfold maskI at h
 cases a <;> cases b <;> cases c <;> cases d <;> cases e <;> cases f <;> cases a' <;> cases b' <;> cases c' <;> cases d' <;> cases e' <;> cases f' <;> simp at h ⊢
theorem posV_inj {p q : Pos} : veq (posV p) (posV q) = true ↔ p = q := by
 obtain ⟨⟨a, b, c, d⟩, e⟩ := p
 obtain ⟨⟨a', b', c', d'⟩, e'⟩ := q
 simp only [posV, veq, veqs, Bool.and_true, Bool.and_eq_true, decide_eq_true_eq]
 refine ⟨fun ⟨h1, h2, h3, h4, h5⟩ => ?_, fun h => by cases h; exact ⟨rfl, rfl, rfl, rfl, rfl⟩⟩
 obtain ⟨k1, k2, k3, k4, k5, k6⟩ := maskI_inj h5
 subst h1 h2 h3 h4
 obtain ⟨x1, x2, x3, x4, x5, x6⟩ := e
 obtain ⟨y1, y2, y3, y4, y5, y6⟩ := e'
 simp only at k1 k2 k3 k4 k5 k6
 subst k1 k2 k3 k4 k5 k6
 rfl
def metE (met : List Pos) : List (Value × AV) := met.map fun p => (posV p, tv)
theorem mlook_met {p : Pos} : ∀ {met : List Pos}, mlook (metE met) (posV p) = if p ∈ met then some tv else none
 | [] => rfl
 | q :: met => by
  have ih := mlook_met (p := p) (met := met)
  unfold mlook metE at ih ⊢
  rw [List.map_cons, List.find?_cons]
  by_cases h : veq (posV q) (posV p) = true
  ·have := posV_inj.1 h
   subst this
   simp only [h, Option.map_some]
   rw [if_pos (by simp)]
  ·have hne : ¬ q = p := fun e => h (posV_inj.2 e)
   have h' : veq (posV q) (posV p) = false := by simpa using h
   simp only [h']
   rw [ih]
   by_cases hm : p ∈ met
   ·rw [if_pos hm, if_pos (by simp [hm])]
   ·rw [if_neg hm, if_neg (by simp [hm]; exact fun e => hne e.symm)]
theorem mset_met {p : Pos} : ∀ {met : List Pos}, p ∉ met → mset (metE met) (posV p) tv = metE (met ++ [p])
 | [], _ => rfl
 | q :: met, h => by
  have hne : ¬ veq (posV q) (posV p) = true := fun e => h (by rw [posV_inj.1 e]; simp)
  show (if veq (posV q) (posV p) = true then _ else (posV q, tv) :: mset (metE met) (posV p) tv) = _
  rw [if_neg hne, mset_met fun hm => h (by simp [hm])]
  rfl
def PosS (p : Pos) : Prop := (-1 ≤ p.1.1 ∧ p.1.1 ≤ 1000) ∧ (-1 ≤ p.1.2.1 ∧ p.1.2.1 ≤ 1000) ∧ (-1 ≤ p.1.2.2.1 ∧ p.1.2.2.1 ≤ 1000) ∧ -1 ≤ p.1.2.2.2 ∧ p.1.2.2.2 ≤ 1000
theorem maskI_small (a b c d e f : Bool) : -1 ≤ maskI a b c d e f ∧ maskI a b c d e f ≤ 1000 := by
 cases a <;> cases b <;> cases c <;> cases d <;> cases e <;> cases f <;> decide
theorem shOk_pos {p : Pos} (h : PosS p) : shOk (.arr 5) (posV p) = true := by
 obtain ⟨h1, h2, h3, h4⟩ := h
 simp only [posV, shOk]
 simp only [List.all_cons, List.all_nil, isI64_small h1, isI64_small h2, isI64_small h3, isI64_small h4, isI64_small (maskI_small _ _ _ _ _ _), maskP]
 rfl
theorem aop_lookup {m : Bool} {g : Nat → Option Blk} {n : Nat} {ρ : Operand → Option AV} {o : Oper} {x k : Operand} {id : Nat} {p : Pos} {met : List Pos} (ho : o.op = .lookup 189 x k false) (hx : ρ x = some (.mp id)) (hk : ρ k = some (.agg (posA p))) (hg : g id = some (.map (.arr 5) (metE met))) (hp : PosS p) :
  aopF Tryz.prog m g n ρ o = some (.val (.lit (.bool (decide (p ∈ met)))) .same) := by
 rw [aopF_fun]
 obtain ⟨dst, op, ty, pos, after, guard⟩ := o
 simp only at ho
 subst ho
 have ht : tmap Tryz.prog 189 = some (.arr 5, 130, 4) := by kernel_rfl
 have hz : tz Tryz.prog 4 = some (.bool false) := by kernel_rfl
 have hc : conc (.agg (posA p)) = some (posV p) := rfl
 simp only [aopT, hx, hk, ht, hc, hg, hz, mlook_met]
 rw [if_pos ⟨rfl, shOk_pos hp⟩]
 by_cases hm : p ∈ met
 ·rw [if_pos hm, decide_eq_true hm]; rfl
 ·rw [if_neg hm, decide_eq_false hm]; rfl
theorem aop_update {m : Bool} {g : Nat → Option Blk} {n : Nat} {ρ : Operand → Option AV} {o : Oper} {x k y : Operand} {id : Nat} {p : Pos} {met : List Pos} (ho : o.op = .mapUpdate 189 x k y ∨ o.op = .insert 189 x k y) (hx : ρ x = some (.mp id)) (hk : ρ k = some (.agg (posA p))) (hy : ρ y = some tv) (hg : g id = some (.map (.arr 5) (metE met))) (hp : PosS p) (hm : p ∉ met) :
  aopF Tryz.prog m g n ρ o = some (.val (.lit undef) (.set id (.map (.arr 5) (metE (met ++ [p]))))) := by
 rw [aopF_fun]
 obtain ⟨dst, op, ty, pos, after, guard⟩ := o
 simp only at ho
 have ht : tmap Tryz.prog 189 = some (.arr 5, 130, 4) := by kernel_rfl
 have hc : conc (.agg (posA p)) = some (posV p) := rfl
 rcases ho with rfl | rfl
 ·simp only [aopT, hx, hk, hy, ht, hc, hg, mset_met hm]
  rw [if_pos ⟨rfl, shOk_pos hp⟩]
 ·simp only [aopT, hx, hk, hy, ht, hc, hg, mset_met hm]
  rw [if_pos ⟨rfl, shOk_pos hp⟩]
end Go.Vm

namespace Go.Vm
open Go.Proofs
def r5 : List Int := [-1, 0, 1, 2, 3]
def Small (vs : List Vers) : Prop := ∀ v ∈ vs, v.length ≤ 4
theorem PosOk.small {vs : List Vers} (hs : Small vs) {n : Nat} {p : Int} (h : PosOk vs n p) : -1 ≤ p ∧ p ≤ 3 := by
 rcases h with rfl | ⟨h1, h2, h3⟩
 ·omega
 ·have e : vs.getD n [] = vs[n] := by simp [List.getD, List.getElem?_eq_getElem h2]
  rw [e] at h3
  have := hs _ (List.getElem_mem h2)
  omega
theorem r5_mem {p : Int} (h : -1 ≤ p ∧ p ≤ 3) : p ∈ r5 := by
 have : p = -1 ∨ p = 0 ∨ p = 1 ∨ p = 2 ∨ p = 3 := by omega
 rcases this with rfl | rfl | rfl | rfl | rfl <;> simp [r5]
theorem PosK.posS {vs : List Vers} (hs : Small vs) {p : Pos} (h : PosK vs p) : PosS p := by
 obtain ⟨h0, h1, h2, h3⟩ := h
 have := h0.small hs
 have := h1.small hs
 have := h2.small hs
 have := h3.small hs
 exact ⟨by omega, by omega, by omega, by omega⟩
end Go.Vm

namespace Go.Vm
open Go.Proofs
structure Bf where
 q : List (Pos × List Nat)
 met : List Pos
 g : Nat
theorem under_metE (n : Nat) : ∀ met : List Pos, AV.unders n ((metE met).map (·.2))
 | [] => trivial
 | _ :: met => ⟨trivial, under_metE n met⟩
end Go.Vm

namespace Go.Vm
open Go.Proofs
end Go.Vm

namespace Go.Vm
open Go.Proofs
def erI (vs : List Vers) (L : List Int) (l : List Nat) (n : Nat) : Int := if (n : Int) ∈ L then (after (vs.getD n []) 0 (cuesI l) : Nat) else -1
section
variable {vs : List Vers} {k : Nat} {L : List Int} (hv : ∀ v ∈ vs, VersOk v k) (hv0 : ∀ v ∈ vs, 0 < v.length) (hL : ∀ n : Nat, (n : Int) ∈ L → n < vs.length)
include hv hv0 hL
end
end Go.Vm
