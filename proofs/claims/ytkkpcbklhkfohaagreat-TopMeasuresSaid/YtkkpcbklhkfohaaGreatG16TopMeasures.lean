/-
  Texts of the proof, part 16: the machine, contracts of functions, plain laws. (Own work.)
-/
import Derived.Test.YtkkpcbklhkfohaaGreatG15TopMeasures
import Derived.Test.YtkkpcbklhkfohaaGreatG11TopMeasures
import Derived.Test.YtkkpcbklhkfohaaGreatG12TopMeasures

namespace Go.Vm
open Go.Proofs
set_option maxRecDepth 100000 in
theorem c_never (a b : Int) (H : List Blk) : ACall Tryz.prog 56 [n' a, n' b] H (.ret (.lit (.bool false))) H := by
 refine fn_rule (m := false) (fn := Tryz.f56) (c := (Tryz.f56.body).getD .skip) mixed (by kernel_rfl) (by kernel_rfl) (of_decide_eq_true (by kernel_rfl)) ?_ ?_ ?_ H
 ·exact ⟨trivial, trivial, trivial⟩
 ·trivial
 ·exact ⟨.inl rfl, FinG.mk _ rfl rfl rfl⟩
def okP (m : Bool) (p q : Int) : Bool := m || !(decide (0 ≤ p) && decide (0 ≤ q))
def tkB (p0 p1 p2 p3 : Int) (m0 m1 m2 m3 m4 m5 : Bool) (k : Nat) : Bool :=
 (decide (k ≤ 0) || okP m0 p1 p0) && ((decide (k ≤ 1) || okP m1 p2 p0) && ((decide (k ≤ 2) || okP m2 p2 p1) && ((decide (k ≤ 3) || okP m3 p3 p0) && ((decide (k ≤ 4) || okP m4 p3 p1) && (decide (k ≤ 5) || okP m5 p3 p2)))))
def toldB (p0 p1 p2 p3 : Int) (m0 m1 m2 m3 m4 m5 : Bool) : Bool := tkB p0 p1 p2 p3 m0 m1 m2 m3 m4 m5 6
theorem mask_and0 : ∀ a b c d e f : Bool, IntKind.i64.wrap (BitVec.ofInt IntKind.i64.bits (maskI a b c d e f) &&& BitVec.ofInt IntKind.i64.bits 1).toNat = if a then 1 else 0 := by
 intro a b c d e f; cases a <;> cases b <;> cases c <;> cases d <;> cases e <;> cases f <;> rfl
theorem mask_and1 : ∀ a b c d e f : Bool, IntKind.i64.wrap (BitVec.ofInt IntKind.i64.bits (maskI a b c d e f) &&& BitVec.ofInt IntKind.i64.bits 2).toNat = if b then 2 else 0 := by
 intro a b c d e f; cases a <;> cases b <;> cases c <;> cases d <;> cases e <;> cases f <;> rfl
theorem mask_and2 : ∀ a b c d e f : Bool, IntKind.i64.wrap (BitVec.ofInt IntKind.i64.bits (maskI a b c d e f) &&& BitVec.ofInt IntKind.i64.bits 4).toNat = if c then 4 else 0 := by
 intro a b c d e f; cases a <;> cases b <;> cases c <;> cases d <;> cases e <;> cases f <;> rfl
theorem mask_and3 : ∀ a b c d e f : Bool, IntKind.i64.wrap (BitVec.ofInt IntKind.i64.bits (maskI a b c d e f) &&& BitVec.ofInt IntKind.i64.bits 8).toNat = if d then 8 else 0 := by
 intro a b c d e f; cases a <;> cases b <;> cases c <;> cases d <;> cases e <;> cases f <;> rfl
theorem mask_and4 : ∀ a b c d e f : Bool, IntKind.i64.wrap (BitVec.ofInt IntKind.i64.bits (maskI a b c d e f) &&& BitVec.ofInt IntKind.i64.bits 16).toNat = if e then 16 else 0 := by
 intro a b c d e f; cases a <;> cases b <;> cases c <;> cases d <;> cases e <;> cases f <;> rfl
theorem mask_and5 : ∀ a b c d e f : Bool, IntKind.i64.wrap (BitVec.ofInt IntKind.i64.bits (maskI a b c d e f) &&& BitVec.ofInt IntKind.i64.bits 32).toNat = if f then 32 else 0 := by
 intro a b c d e f; cases a <;> cases b <;> cases c <;> cases d <;> cases e <;> cases f <;> rfl
abbrev neverV : AV := .lit (.func (.func 56) #[] #[])
noncomputable def tolB (st : LoopState) : Blk := lpB Tryz.f62 st [(2, .ptr 0 0), (3, .ptr 1 0), (4, .ptr 2 0), (8, .fn (.func 164) [] [.ptr 3 0])] 4
theorem under_tolB (st : LoopState) : (tolB st).under 6 := under_lpB ⟨ltb rfl, ltb rfl, ltb rfl, ⟨trivial, ltb rfl, trivial⟩, trivial⟩ (ltb rfl)
noncomputable def tolL (p0 p1 p2 p3 : Int) (m0 m1 m2 m3 m4 m5 : Bool) (st : LoopState) : List (Nat × Blk) :=
 [(0, .box (posC p0 p1 p2 p3 m0 m1 m2 m3 m4 m5) 123), (1, .box [neverV] 121), (2, .box [.lit (.bool false)] 4), (3, .box (posC p0 p1 p2 p3 m0 m1 m2 m3 m4 m5) 123), (4, .defd), (5, tolB st)]
set_option maxHeartbeats 8000000 in
set_option maxRecDepth 100000 in
theorem c_told {p0 p1 p2 p3 : Int} (m0 m1 m2 m3 m4 m5 : Bool) (H : List Blk) : ACall Tryz.prog 62 [.agg (posC p0 p1 p2 p3 m0 m1 m2 m3 m4 m5), neverV] H (.ret (nb (toldB p0 p1 p2 p3 m0 m1 m2 m3 m4 m5))) H := by
 refine fn_ruleM (m := false) (fn := Tryz.f62) (c := (Tryz.f62.body).getD .skip) mixed (by kernel_rfl) (by kernel_rfl) (of_decide_eq_true (by kernel_rfl)) ?_ ?_ ?_ H
 ·exact ⟨under_posC 0 _ _ _ _ _ _ _ _ _ _, trivial, trivial⟩
 ·trivial
 ·refine CallG.inlineP (m := false) (fn := Tryz.f113) (c := (Tryz.f113.body).getD .skip) mixed (by kernel_rfl) (by kernel_rfl) (of_decide_eq_true (by kernel_rfl)) ?_
  refine .inl ⟨.inl rfl, _, rfl, rfl, ?_⟩
  refine RangeG.fresh (n0 := 4) [(2, .ptr 0 0), (3, .ptr 1 0), (4, .ptr 2 0), (8, .fn (.func 164) [] [.ptr 3 0])] ((tolL p0 p1 p2 p3 m0 m1 m2 m3 m4 m5 .ready).take 4) rfl ?_ ?_ ?_
  ·exact ⟨⟨_, rfl, Weak.refl _ _⟩, ⟨_, rfl, Weak.refl _ _⟩, ⟨_, rfl, Weak.refl _ _⟩, ⟨_, rfl, Weak.refl _ _⟩, trivial⟩
  ·exact ⟨bk rfl rfl, bk rfl rfl, bk rfl rfl, bk rfl rfl, trivial⟩
  refine RangeG.outer (f := 164) (first := []) (captured := [.ptr 3 0]) rfl rfl rfl ?_
  refine CallG.inlineP (m := false) (fn := Tryz.f164) (c := (Tryz.f164.body).getD .skip) mixed (by kernel_rfl) (by kernel_rfl) (of_decide_eq_true (by kernel_rfl)) ?_
  refine LoopG.at (n0 := 6) rfl (loop_up mixed (m := false) (fun a => [(0, .yld 5), (1, .ptr 3 0), (3, n' (kk a : Nat)), (6, n' a)]) (fun _ => tolL p0 p1 p2 p3 m0 m1 m2 m3 m4 m5 .ready) (fun a => tkB p0 p1 p2 p3 m0 m1 m2 m3 m4 m5 (kk a) = true) 4 2 (leb rfl) rfl ?_ ?_ ?_)
  ·exact ⟨wp rfl (ltb rfl), wp rfl (ltb rfl), wp rfl trivial, wp rfl trivial, trivial⟩
  ·exact ⟨bk rfl rfl, bk rfl rfl, bk rfl rfl, bk rfl rfl, bk rfl rfl, bk rfl rfl, trivial⟩
  ·intro a ha hI
   have ha4 : a = 0 ∨ a = 1 ∨ a = 2 ∨ a = 3 ∨ a = 4 := by omega
   rcases ha4 with rfl | rfl | rfl | rfl | rfl
   ·refine If.mk (fun _ => ?_) (fun h => absurd (by decide) h)
    refine ifY ?_
    refine LoopG.at (n0 := 6) rfl (loop_up mixed (m := false) (fun r => [(0, .yld 5), (1, .ptr 3 0), (3, n' (kk 0 + r : Nat)), (4, n' (0 : Nat)), (6, n' (0 : Nat)), (9, n' (0 : Nat)), (10, n' r)]) (fun _ => tolL p0 p1 p2 p3 m0 m1 m2 m3 m4 m5 .ready) (fun r => tkB p0 p1 p2 p3 m0 m1 m2 m3 m4 m5 (kk 0 + r) = true) 0 2 (leb rfl) hI ?_ ?_ ?_)
    ·exact ⟨wp rfl (ltb rfl), wp rfl (ltb rfl), wp rfl trivial, wp rfl trivial, wp rfl trivial, wp rfl trivial, wp rfl trivial, trivial⟩
    ·exact ⟨bk rfl rfl, bk rfl rfl, bk rfl rfl, bk rfl rfl, bk rfl rfl, bk rfl rfl, trivial⟩
    ·intro r hr hJ
     obtain rfl : r = 0 := by omega
     refine If.mk (fun h => absurd h (by decide)) (fun _ => ?_)
     refine ifN ?_
     refine ⟨leb rfl, ?_⟩
     refine Side.mk (fits64 (by omega)) ?_
     refine ⟨leb rfl, rfl, by omega, hJ, ⟨wp rfl (ltb rfl), wp rfl (ltb rfl), wp rfl trivial, wp rfl trivial, trivial⟩, ?_, ?_⟩
     ·exact ⟨bk rfl rfl, bk rfl rfl, bk rfl rfl, bk rfl rfl, bk rfl rfl, bk rfl rfl, trivial⟩
     ·exact ⟨⟨_, rfl, trivial, trivial⟩, ⟨_, rfl, under_posC _ _ _ _ _ _ _ _ _ _ _⟩, ⟨_, rfl, trivial⟩, ⟨tolB .ready, rfl, under_tolB _⟩, trivial⟩
   ·refine If.mk (fun _ => ?_) (fun h => absurd (by decide) h)
    refine ifY ?_
    refine LoopG.at (n0 := 6) rfl (loop_up mixed (m := false) (fun r => [(0, .yld 5), (1, .ptr 3 0), (3, n' (kk 1 + r : Nat)), (4, n' (1 : Nat)), (6, n' (1 : Nat)), (9, n' (1 : Nat)), (10, n' r)]) (fun _ => tolL p0 p1 p2 p3 m0 m1 m2 m3 m4 m5 .ready) (fun r => tkB p0 p1 p2 p3 m0 m1 m2 m3 m4 m5 (kk 1 + r) = true) 1 2 (leb rfl) hI ?_ ?_ ?_)
    ·exact ⟨wp rfl (ltb rfl), wp rfl (ltb rfl), wp rfl trivial, wp rfl trivial, wp rfl trivial, wp rfl trivial, wp rfl trivial, trivial⟩
    ·exact ⟨bk rfl rfl, bk rfl rfl, bk rfl rfl, bk rfl rfl, bk rfl rfl, bk rfl rfl, trivial⟩
    ·intro r hr hJ
     have hr4 : r = 0 ∨ r = 1 := by omega
     rcases hr4 with rfl | rfl
     ·refine If.mk (fun _ => ?_) (fun h => absurd (by decide) h)
      refine ifY ?_
      refine If.mk (fun ga => ?_) (fun ga => ?_)
      ·refine If.mk (fun gb => ?_) (fun gb => ?_)
       ·refine RoundG.fresh (n0 := 6) (tolL p0 p1 p2 p3 m0 m1 m2 m3 m4 m5 .ready) rfl ?_ ?_
        ·exact ⟨bk rfl rfl, bk rfl rfl, bk rfl rfl, bk rfl rfl, bk rfl rfl, bk rfl rfl, trivial⟩
        refine RoundG.introF (m := false) mixed rfl rfl (by decide) ?_
        refine ⟨rfl, _, rfl, rfl, [(2, .ptr 0 0), (3, .ptr 1 0), (4, .ptr 2 0), (5, n' (0 : Nat)), (6, .ptr 6 0)], tolL p0 p1 p2 p3 m0 m1 m2 m3 m4 m5 .busy ++ [(6, .box [n' (1 : Nat), n' (0 : Nat)] 139)], 7, rfl, ?_, ?_, ?_⟩
        ·exact ⟨⟨_, rfl, Weak.refl _ _⟩, ⟨_, rfl, Weak.refl _ _⟩, ⟨_, rfl, Weak.refl _ _⟩, ⟨_, rfl, Weak.refl _ _⟩, ⟨_, rfl, Weak.refl _ _⟩, trivial⟩
        ·exact ⟨bk rfl rfl, bk rfl rfl, bk rfl rfl, bk rfl rfl, bk rfl rfl, bk rfl rfl, bk rfl rfl, trivial⟩
        have hand := mask_and0 m0 m1 m2 m3 m4 m5
        refine If.mk (fun hz => ?_) (fun hz => ?_)
        ·have hz' : IntKind.i64.wrap (BitVec.ofInt IntKind.i64.bits (maskI m0 m1 m2 m3 m4 m5) &&& BitVec.ofInt IntKind.i64.bits 1).toNat = 0 := hz
         rw [hand] at hz'
         have hm : m0 = false := by cases h : m0 with
          | false => rfl
          | true => rw [h] at hz'; cases hz'
         refine CallG.pure _ (c_never _ _) ?_
         refine ifY ?_
         refine ⟨_, _, rfl, rfl, ?_⟩
         refine ifY ?_
         refine ⟨leb rfl, leb rfl, ?_⟩
         refine .inl ⟨.inl rfl, _, rfl, rfl, ?_⟩
         refine ⟨_, _, rfl, (fun e => by cases e), rfl, ?_⟩
         refine ⟨.inl rfl, FinM.mk _ rfl rfl ?_⟩
         have e0 : okP m0 p1 p0 = false := by simp [okP, ga, gb, hm]
         show AV.lit (.bool false) = nb (toldB p0 p1 p2 p3 m0 m1 m2 m3 m4 m5)
         unfold toldB tkB
         simp [e0, nb]
        ·have hz' : ¬ IntKind.i64.wrap (BitVec.ofInt IntKind.i64.bits (maskI m0 m1 m2 m3 m4 m5) &&& BitVec.ofInt IntKind.i64.bits 1).toNat = 0 := hz
         rw [hand] at hz'
         have hm : m0 = true := by cases h : m0 with
          | true => rfl
          | false => rw [h] at hz'; exact absurd rfl hz'
         refine ifN ?_
         refine ⟨_, _, rfl, rfl, ?_⟩
         have e0 : okP m0 p1 p0 = true := by simp [okP, hm]
         refine ifN ?_
         refine Side.mk (by unfold fitsK; kernel_rfl) ?_
         refine Side.mk (by unfold fitsK; kernel_rfl) ?_
         refine ⟨leb rfl, rfl, by omega, ?_, ⟨wp rfl (ltb rfl), wp rfl (ltb rfl), wp rfl trivial, wp rfl trivial, wp rfl trivial, wp rfl trivial, wp rfl trivial, trivial⟩, ?_, ?_⟩
         ·have hJ' : tkB p0 p1 p2 p3 m0 m1 m2 m3 m4 m5 0 = true := hJ
          show tkB p0 p1 p2 p3 m0 m1 m2 m3 m4 m5 (0 + 1) = true
          simp [tkB, e0] at hJ' ⊢
          try simp [hJ']
         ·exact ⟨bk rfl rfl, bk rfl rfl, bk rfl rfl, bk rfl rfl, bk rfl rfl, bk rfl rfl, trivial⟩
         ·exact ⟨⟨tolB .ready, rfl, under_tolB _⟩, trivial⟩
       ·have e0 : okP m0 p1 p0 = true := by simp [okP, gb]
        refine ifN ?_
        refine Side.mk (by unfold fitsK; kernel_rfl) ?_
        refine Side.mk (by unfold fitsK; kernel_rfl) ?_
        refine ⟨leb rfl, rfl, by omega, ?_, ⟨wp rfl (ltb rfl), wp rfl (ltb rfl), wp rfl trivial, wp rfl trivial, wp rfl trivial, wp rfl trivial, wp rfl trivial, trivial⟩, ?_, ?_⟩
        ·have hJ' : tkB p0 p1 p2 p3 m0 m1 m2 m3 m4 m5 0 = true := hJ
         show tkB p0 p1 p2 p3 m0 m1 m2 m3 m4 m5 (0 + 1) = true
         simp [tkB, e0] at hJ' ⊢
         try simp [hJ']
        ·exact ⟨bk rfl rfl, bk rfl rfl, bk rfl rfl, bk rfl rfl, bk rfl rfl, bk rfl rfl, trivial⟩
        ·trivial
      ·have e0 : okP m0 p1 p0 = true := by simp [okP, ga]
       refine ifN ?_
       refine Side.mk (by unfold fitsK; kernel_rfl) ?_
       refine Side.mk (by unfold fitsK; kernel_rfl) ?_
       refine ⟨leb rfl, rfl, by omega, ?_, ⟨wp rfl (ltb rfl), wp rfl (ltb rfl), wp rfl trivial, wp rfl trivial, wp rfl trivial, wp rfl trivial, wp rfl trivial, trivial⟩, ?_, ?_⟩
       ·have hJ' : tkB p0 p1 p2 p3 m0 m1 m2 m3 m4 m5 0 = true := hJ
        show tkB p0 p1 p2 p3 m0 m1 m2 m3 m4 m5 (0 + 1) = true
        simp [tkB, e0] at hJ' ⊢
        try simp [hJ']
       ·exact ⟨bk rfl rfl, bk rfl rfl, bk rfl rfl, bk rfl rfl, bk rfl rfl, bk rfl rfl, trivial⟩
       ·trivial
     ·refine If.mk (fun h => absurd h (by decide)) (fun _ => ?_)
      refine ifN ?_
      refine ⟨leb rfl, ?_⟩
      refine Side.mk (fits64 (by omega)) ?_
      refine ⟨leb rfl, rfl, by omega, hJ, ⟨wp rfl (ltb rfl), wp rfl (ltb rfl), wp rfl trivial, wp rfl trivial, trivial⟩, ?_, ?_⟩
      ·exact ⟨bk rfl rfl, bk rfl rfl, bk rfl rfl, bk rfl rfl, bk rfl rfl, bk rfl rfl, trivial⟩
      ·exact ⟨⟨_, rfl, trivial, trivial⟩, ⟨_, rfl, under_posC _ _ _ _ _ _ _ _ _ _ _⟩, ⟨_, rfl, trivial⟩, ⟨tolB .ready, rfl, under_tolB _⟩, trivial⟩
   ·refine If.mk (fun _ => ?_) (fun h => absurd (by decide) h)
    refine ifY ?_
    refine LoopG.at (n0 := 6) rfl (loop_up mixed (m := false) (fun r => [(0, .yld 5), (1, .ptr 3 0), (3, n' (kk 2 + r : Nat)), (4, n' (2 : Nat)), (6, n' (2 : Nat)), (9, n' (2 : Nat)), (10, n' r)]) (fun _ => tolL p0 p1 p2 p3 m0 m1 m2 m3 m4 m5 .ready) (fun r => tkB p0 p1 p2 p3 m0 m1 m2 m3 m4 m5 (kk 2 + r) = true) 2 2 (leb rfl) hI ?_ ?_ ?_)
    ·exact ⟨wp rfl (ltb rfl), wp rfl (ltb rfl), wp rfl trivial, wp rfl trivial, wp rfl trivial, wp rfl trivial, wp rfl trivial, trivial⟩
    ·exact ⟨bk rfl rfl, bk rfl rfl, bk rfl rfl, bk rfl rfl, bk rfl rfl, bk rfl rfl, trivial⟩
    ·intro r hr hJ
     have hr4 : r = 0 ∨ r = 1 ∨ r = 2 := by omega
     rcases hr4 with rfl | rfl | rfl
     ·refine If.mk (fun _ => ?_) (fun h => absurd (by decide) h)
      refine ifY ?_
      refine If.mk (fun ga => ?_) (fun ga => ?_)
      ·refine If.mk (fun gb => ?_) (fun gb => ?_)
       ·refine RoundG.fresh (n0 := 6) (tolL p0 p1 p2 p3 m0 m1 m2 m3 m4 m5 .ready) rfl ?_ ?_
        ·exact ⟨bk rfl rfl, bk rfl rfl, bk rfl rfl, bk rfl rfl, bk rfl rfl, bk rfl rfl, trivial⟩
        refine RoundG.introF (m := false) mixed rfl rfl (by decide) ?_
        refine ⟨rfl, _, rfl, rfl, [(2, .ptr 0 0), (3, .ptr 1 0), (4, .ptr 2 0), (5, n' (1 : Nat)), (6, .ptr 6 0)], tolL p0 p1 p2 p3 m0 m1 m2 m3 m4 m5 .busy ++ [(6, .box [n' (2 : Nat), n' (0 : Nat)] 139)], 7, rfl, ?_, ?_, ?_⟩
        ·exact ⟨⟨_, rfl, Weak.refl _ _⟩, ⟨_, rfl, Weak.refl _ _⟩, ⟨_, rfl, Weak.refl _ _⟩, ⟨_, rfl, Weak.refl _ _⟩, ⟨_, rfl, Weak.refl _ _⟩, trivial⟩
        ·exact ⟨bk rfl rfl, bk rfl rfl, bk rfl rfl, bk rfl rfl, bk rfl rfl, bk rfl rfl, bk rfl rfl, trivial⟩
        have hand := mask_and1 m0 m1 m2 m3 m4 m5
        refine If.mk (fun hz => ?_) (fun hz => ?_)
        ·have hz' : IntKind.i64.wrap (BitVec.ofInt IntKind.i64.bits (maskI m0 m1 m2 m3 m4 m5) &&& BitVec.ofInt IntKind.i64.bits 2).toNat = 0 := hz
         rw [hand] at hz'
         have hm : m1 = false := by cases h : m1 with
          | false => rfl
          | true => rw [h] at hz'; cases hz'
         refine CallG.pure _ (c_never _ _) ?_
         refine ifY ?_
         refine ⟨_, _, rfl, rfl, ?_⟩
         refine ifY ?_
         refine ⟨leb rfl, leb rfl, ?_⟩
         refine .inl ⟨.inl rfl, _, rfl, rfl, ?_⟩
         refine ⟨_, _, rfl, (fun e => by cases e), rfl, ?_⟩
         refine ⟨.inl rfl, FinM.mk _ rfl rfl ?_⟩
         have e0 : okP m1 p2 p0 = false := by simp [okP, ga, gb, hm]
         show AV.lit (.bool false) = nb (toldB p0 p1 p2 p3 m0 m1 m2 m3 m4 m5)
         unfold toldB tkB
         simp [e0, nb]
        ·have hz' : ¬ IntKind.i64.wrap (BitVec.ofInt IntKind.i64.bits (maskI m0 m1 m2 m3 m4 m5) &&& BitVec.ofInt IntKind.i64.bits 2).toNat = 0 := hz
         rw [hand] at hz'
         have hm : m1 = true := by cases h : m1 with
          | true => rfl
          | false => rw [h] at hz'; exact absurd rfl hz'
         refine ifN ?_
         refine ⟨_, _, rfl, rfl, ?_⟩
         have e0 : okP m1 p2 p0 = true := by simp [okP, hm]
         refine ifN ?_
         refine Side.mk (by unfold fitsK; kernel_rfl) ?_
         refine Side.mk (by unfold fitsK; kernel_rfl) ?_
         refine ⟨leb rfl, rfl, by omega, ?_, ⟨wp rfl (ltb rfl), wp rfl (ltb rfl), wp rfl trivial, wp rfl trivial, wp rfl trivial, wp rfl trivial, wp rfl trivial, trivial⟩, ?_, ?_⟩
         ·have hJ' : tkB p0 p1 p2 p3 m0 m1 m2 m3 m4 m5 1 = true := hJ
          show tkB p0 p1 p2 p3 m0 m1 m2 m3 m4 m5 (1 + 1) = true
          simp [tkB, e0] at hJ' ⊢
          try simp [hJ']
         ·exact ⟨bk rfl rfl, bk rfl rfl, bk rfl rfl, bk rfl rfl, bk rfl rfl, bk rfl rfl, trivial⟩
         ·exact ⟨⟨tolB .ready, rfl, under_tolB _⟩, trivial⟩
       ·have e0 : okP m1 p2 p0 = true := by simp [okP, gb]
        refine ifN ?_
        refine Side.mk (by unfold fitsK; kernel_rfl) ?_
        refine Side.mk (by unfold fitsK; kernel_rfl) ?_
        refine ⟨leb rfl, rfl, by omega, ?_, ⟨wp rfl (ltb rfl), wp rfl (ltb rfl), wp rfl trivial, wp rfl trivial, wp rfl trivial, wp rfl trivial, wp rfl trivial, trivial⟩, ?_, ?_⟩
        ·have hJ' : tkB p0 p1 p2 p3 m0 m1 m2 m3 m4 m5 1 = true := hJ
         show tkB p0 p1 p2 p3 m0 m1 m2 m3 m4 m5 (1 + 1) = true
         simp [tkB, e0] at hJ' ⊢
         try simp [hJ']
        ·exact ⟨bk rfl rfl, bk rfl rfl, bk rfl rfl, bk rfl rfl, bk rfl rfl, bk rfl rfl, trivial⟩
        ·trivial
      ·have e0 : okP m1 p2 p0 = true := by simp [okP, ga]
       refine ifN ?_
       refine Side.mk (by unfold fitsK; kernel_rfl) ?_
       refine Side.mk (by unfold fitsK; kernel_rfl) ?_
       refine ⟨leb rfl, rfl, by omega, ?_, ⟨wp rfl (ltb rfl), wp rfl (ltb rfl), wp rfl trivial, wp rfl trivial, wp rfl trivial, wp rfl trivial, wp rfl trivial, trivial⟩, ?_, ?_⟩
       ·have hJ' : tkB p0 p1 p2 p3 m0 m1 m2 m3 m4 m5 1 = true := hJ
        show tkB p0 p1 p2 p3 m0 m1 m2 m3 m4 m5 (1 + 1) = true
        simp [tkB, e0] at hJ' ⊢
        try simp [hJ']
       ·exact ⟨bk rfl rfl, bk rfl rfl, bk rfl rfl, bk rfl rfl, bk rfl rfl, bk rfl rfl, trivial⟩
       ·trivial
     ·refine If.mk (fun _ => ?_) (fun h => absurd (by decide) h)
      refine ifY ?_
      refine If.mk (fun ga => ?_) (fun ga => ?_)
      ·refine If.mk (fun gb => ?_) (fun gb => ?_)
       ·refine RoundG.fresh (n0 := 6) (tolL p0 p1 p2 p3 m0 m1 m2 m3 m4 m5 .ready) rfl ?_ ?_
        ·exact ⟨bk rfl rfl, bk rfl rfl, bk rfl rfl, bk rfl rfl, bk rfl rfl, bk rfl rfl, trivial⟩
        refine RoundG.introF (m := false) mixed rfl rfl (by decide) ?_
        refine ⟨rfl, _, rfl, rfl, [(2, .ptr 0 0), (3, .ptr 1 0), (4, .ptr 2 0), (5, n' (2 : Nat)), (6, .ptr 6 0)], tolL p0 p1 p2 p3 m0 m1 m2 m3 m4 m5 .busy ++ [(6, .box [n' (2 : Nat), n' (1 : Nat)] 139)], 7, rfl, ?_, ?_, ?_⟩
        ·exact ⟨⟨_, rfl, Weak.refl _ _⟩, ⟨_, rfl, Weak.refl _ _⟩, ⟨_, rfl, Weak.refl _ _⟩, ⟨_, rfl, Weak.refl _ _⟩, ⟨_, rfl, Weak.refl _ _⟩, trivial⟩
        ·exact ⟨bk rfl rfl, bk rfl rfl, bk rfl rfl, bk rfl rfl, bk rfl rfl, bk rfl rfl, bk rfl rfl, trivial⟩
        have hand := mask_and2 m0 m1 m2 m3 m4 m5
        refine If.mk (fun hz => ?_) (fun hz => ?_)
        ·have hz' : IntKind.i64.wrap (BitVec.ofInt IntKind.i64.bits (maskI m0 m1 m2 m3 m4 m5) &&& BitVec.ofInt IntKind.i64.bits 4).toNat = 0 := hz
         rw [hand] at hz'
         have hm : m2 = false := by cases h : m2 with
          | false => rfl
          | true => rw [h] at hz'; cases hz'
         refine CallG.pure _ (c_never _ _) ?_
         refine ifY ?_
         refine ⟨_, _, rfl, rfl, ?_⟩
         refine ifY ?_
         refine ⟨leb rfl, leb rfl, ?_⟩
         refine .inl ⟨.inl rfl, _, rfl, rfl, ?_⟩
         refine ⟨_, _, rfl, (fun e => by cases e), rfl, ?_⟩
         refine ⟨.inl rfl, FinM.mk _ rfl rfl ?_⟩
         have e0 : okP m2 p2 p1 = false := by simp [okP, ga, gb, hm]
         show AV.lit (.bool false) = nb (toldB p0 p1 p2 p3 m0 m1 m2 m3 m4 m5)
         unfold toldB tkB
         simp [e0, nb]
        ·have hz' : ¬ IntKind.i64.wrap (BitVec.ofInt IntKind.i64.bits (maskI m0 m1 m2 m3 m4 m5) &&& BitVec.ofInt IntKind.i64.bits 4).toNat = 0 := hz
         rw [hand] at hz'
         have hm : m2 = true := by cases h : m2 with
          | true => rfl
          | false => rw [h] at hz'; exact absurd rfl hz'
         refine ifN ?_
         refine ⟨_, _, rfl, rfl, ?_⟩
         have e0 : okP m2 p2 p1 = true := by simp [okP, hm]
         refine ifN ?_
         refine Side.mk (by unfold fitsK; kernel_rfl) ?_
         refine Side.mk (by unfold fitsK; kernel_rfl) ?_
         refine ⟨leb rfl, rfl, by omega, ?_, ⟨wp rfl (ltb rfl), wp rfl (ltb rfl), wp rfl trivial, wp rfl trivial, wp rfl trivial, wp rfl trivial, wp rfl trivial, trivial⟩, ?_, ?_⟩
         ·have hJ' : tkB p0 p1 p2 p3 m0 m1 m2 m3 m4 m5 2 = true := hJ
          show tkB p0 p1 p2 p3 m0 m1 m2 m3 m4 m5 (2 + 1) = true
          simp [tkB, e0] at hJ' ⊢
          try simp [hJ']
         ·exact ⟨bk rfl rfl, bk rfl rfl, bk rfl rfl, bk rfl rfl, bk rfl rfl, bk rfl rfl, trivial⟩
         ·exact ⟨⟨tolB .ready, rfl, under_tolB _⟩, trivial⟩
       ·have e0 : okP m2 p2 p1 = true := by simp [okP, gb]
        refine ifN ?_
        refine Side.mk (by unfold fitsK; kernel_rfl) ?_
        refine Side.mk (by unfold fitsK; kernel_rfl) ?_
        refine ⟨leb rfl, rfl, by omega, ?_, ⟨wp rfl (ltb rfl), wp rfl (ltb rfl), wp rfl trivial, wp rfl trivial, wp rfl trivial, wp rfl trivial, wp rfl trivial, trivial⟩, ?_, ?_⟩
        ·have hJ' : tkB p0 p1 p2 p3 m0 m1 m2 m3 m4 m5 2 = true := hJ
         show tkB p0 p1 p2 p3 m0 m1 m2 m3 m4 m5 (2 + 1) = true
         simp [tkB, e0] at hJ' ⊢
         try simp [hJ']
        ·exact ⟨bk rfl rfl, bk rfl rfl, bk rfl rfl, bk rfl rfl, bk rfl rfl, bk rfl rfl, trivial⟩
        ·trivial
      ·have e0 : okP m2 p2 p1 = true := by simp [okP, ga]
       refine ifN ?_
       refine Side.mk (by unfold fitsK; kernel_rfl) ?_
       refine Side.mk (by unfold fitsK; kernel_rfl) ?_
       refine ⟨leb rfl, rfl, by omega, ?_, ⟨wp rfl (ltb rfl), wp rfl (ltb rfl), wp rfl trivial, wp rfl trivial, wp rfl trivial, wp rfl trivial, wp rfl trivial, trivial⟩, ?_, ?_⟩
       ·have hJ' : tkB p0 p1 p2 p3 m0 m1 m2 m3 m4 m5 2 = true := hJ
        show tkB p0 p1 p2 p3 m0 m1 m2 m3 m4 m5 (2 + 1) = true
        simp [tkB, e0] at hJ' ⊢
        try simp [hJ']
       ·exact ⟨bk rfl rfl, bk rfl rfl, bk rfl rfl, bk rfl rfl, bk rfl rfl, bk rfl rfl, trivial⟩
       ·trivial
     ·refine If.mk (fun h => absurd h (by decide)) (fun _ => ?_)
      refine ifN ?_
      refine ⟨leb rfl, ?_⟩
      refine Side.mk (fits64 (by omega)) ?_
      refine ⟨leb rfl, rfl, by omega, hJ, ⟨wp rfl (ltb rfl), wp rfl (ltb rfl), wp rfl trivial, wp rfl trivial, trivial⟩, ?_, ?_⟩
      ·exact ⟨bk rfl rfl, bk rfl rfl, bk rfl rfl, bk rfl rfl, bk rfl rfl, bk rfl rfl, trivial⟩
      ·exact ⟨⟨_, rfl, trivial, trivial⟩, ⟨_, rfl, under_posC _ _ _ _ _ _ _ _ _ _ _⟩, ⟨_, rfl, trivial⟩, ⟨tolB .ready, rfl, under_tolB _⟩, trivial⟩
   ·refine If.mk (fun _ => ?_) (fun h => absurd (by decide) h)
    refine ifY ?_
    refine LoopG.at (n0 := 6) rfl (loop_up mixed (m := false) (fun r => [(0, .yld 5), (1, .ptr 3 0), (3, n' (kk 3 + r : Nat)), (4, n' (3 : Nat)), (6, n' (3 : Nat)), (9, n' (3 : Nat)), (10, n' r)]) (fun _ => tolL p0 p1 p2 p3 m0 m1 m2 m3 m4 m5 .ready) (fun r => tkB p0 p1 p2 p3 m0 m1 m2 m3 m4 m5 (kk 3 + r) = true) 3 2 (leb rfl) hI ?_ ?_ ?_)
    ·exact ⟨wp rfl (ltb rfl), wp rfl (ltb rfl), wp rfl trivial, wp rfl trivial, wp rfl trivial, wp rfl trivial, wp rfl trivial, trivial⟩
    ·exact ⟨bk rfl rfl, bk rfl rfl, bk rfl rfl, bk rfl rfl, bk rfl rfl, bk rfl rfl, trivial⟩
    ·intro r hr hJ
     have hr4 : r = 0 ∨ r = 1 ∨ r = 2 ∨ r = 3 := by omega
     rcases hr4 with rfl | rfl | rfl | rfl
     ·refine If.mk (fun _ => ?_) (fun h => absurd (by decide) h)
      refine ifY ?_
      refine If.mk (fun ga => ?_) (fun ga => ?_)
      ·refine If.mk (fun gb => ?_) (fun gb => ?_)
       ·refine RoundG.fresh (n0 := 6) (tolL p0 p1 p2 p3 m0 m1 m2 m3 m4 m5 .ready) rfl ?_ ?_
        ·exact ⟨bk rfl rfl, bk rfl rfl, bk rfl rfl, bk rfl rfl, bk rfl rfl, bk rfl rfl, trivial⟩
        refine RoundG.introF (m := false) mixed rfl rfl (by decide) ?_
        refine ⟨rfl, _, rfl, rfl, [(2, .ptr 0 0), (3, .ptr 1 0), (4, .ptr 2 0), (5, n' (3 : Nat)), (6, .ptr 6 0)], tolL p0 p1 p2 p3 m0 m1 m2 m3 m4 m5 .busy ++ [(6, .box [n' (3 : Nat), n' (0 : Nat)] 139)], 7, rfl, ?_, ?_, ?_⟩
        ·exact ⟨⟨_, rfl, Weak.refl _ _⟩, ⟨_, rfl, Weak.refl _ _⟩, ⟨_, rfl, Weak.refl _ _⟩, ⟨_, rfl, Weak.refl _ _⟩, ⟨_, rfl, Weak.refl _ _⟩, trivial⟩
        ·exact ⟨bk rfl rfl, bk rfl rfl, bk rfl rfl, bk rfl rfl, bk rfl rfl, bk rfl rfl, bk rfl rfl, trivial⟩
        have hand := mask_and3 m0 m1 m2 m3 m4 m5
        refine If.mk (fun hz => ?_) (fun hz => ?_)
        ·have hz' : IntKind.i64.wrap (BitVec.ofInt IntKind.i64.bits (maskI m0 m1 m2 m3 m4 m5) &&& BitVec.ofInt IntKind.i64.bits 8).toNat = 0 := hz
         rw [hand] at hz'
         have hm : m3 = false := by cases h : m3 with
          | false => rfl
          | true => rw [h] at hz'; cases hz'
         refine CallG.pure _ (c_never _ _) ?_
         refine ifY ?_
         refine ⟨_, _, rfl, rfl, ?_⟩
         refine ifY ?_
         refine ⟨leb rfl, leb rfl, ?_⟩
         refine .inl ⟨.inl rfl, _, rfl, rfl, ?_⟩
         refine ⟨_, _, rfl, (fun e => by cases e), rfl, ?_⟩
         refine ⟨.inl rfl, FinM.mk _ rfl rfl ?_⟩
         have e0 : okP m3 p3 p0 = false := by simp [okP, ga, gb, hm]
         show AV.lit (.bool false) = nb (toldB p0 p1 p2 p3 m0 m1 m2 m3 m4 m5)
         unfold toldB tkB
         simp [e0, nb]
        ·have hz' : ¬ IntKind.i64.wrap (BitVec.ofInt IntKind.i64.bits (maskI m0 m1 m2 m3 m4 m5) &&& BitVec.ofInt IntKind.i64.bits 8).toNat = 0 := hz
         rw [hand] at hz'
         have hm : m3 = true := by cases h : m3 with
          | true => rfl
          | false => rw [h] at hz'; exact absurd rfl hz'
         refine ifN ?_
         refine ⟨_, _, rfl, rfl, ?_⟩
         have e0 : okP m3 p3 p0 = true := by simp [okP, hm]
         refine ifN ?_
         refine Side.mk (by unfold fitsK; kernel_rfl) ?_
         refine Side.mk (by unfold fitsK; kernel_rfl) ?_
         refine ⟨leb rfl, rfl, by omega, ?_, ⟨wp rfl (ltb rfl), wp rfl (ltb rfl), wp rfl trivial, wp rfl trivial, wp rfl trivial, wp rfl trivial, wp rfl trivial, trivial⟩, ?_, ?_⟩
         ·have hJ' : tkB p0 p1 p2 p3 m0 m1 m2 m3 m4 m5 3 = true := hJ
          show tkB p0 p1 p2 p3 m0 m1 m2 m3 m4 m5 (3 + 1) = true
          simp [tkB, e0] at hJ' ⊢
          try simp [hJ']
         ·exact ⟨bk rfl rfl, bk rfl rfl, bk rfl rfl, bk rfl rfl, bk rfl rfl, bk rfl rfl, trivial⟩
         ·exact ⟨⟨tolB .ready, rfl, under_tolB _⟩, trivial⟩
       ·have e0 : okP m3 p3 p0 = true := by simp [okP, gb]
        refine ifN ?_
        refine Side.mk (by unfold fitsK; kernel_rfl) ?_
        refine Side.mk (by unfold fitsK; kernel_rfl) ?_
        refine ⟨leb rfl, rfl, by omega, ?_, ⟨wp rfl (ltb rfl), wp rfl (ltb rfl), wp rfl trivial, wp rfl trivial, wp rfl trivial, wp rfl trivial, wp rfl trivial, trivial⟩, ?_, ?_⟩
        ·have hJ' : tkB p0 p1 p2 p3 m0 m1 m2 m3 m4 m5 3 = true := hJ
         show tkB p0 p1 p2 p3 m0 m1 m2 m3 m4 m5 (3 + 1) = true
         simp [tkB, e0] at hJ' ⊢
         try simp [hJ']
        ·exact ⟨bk rfl rfl, bk rfl rfl, bk rfl rfl, bk rfl rfl, bk rfl rfl, bk rfl rfl, trivial⟩
        ·trivial
      ·have e0 : okP m3 p3 p0 = true := by simp [okP, ga]
       refine ifN ?_
       refine Side.mk (by unfold fitsK; kernel_rfl) ?_
       refine Side.mk (by unfold fitsK; kernel_rfl) ?_
       refine ⟨leb rfl, rfl, by omega, ?_, ⟨wp rfl (ltb rfl), wp rfl (ltb rfl), wp rfl trivial, wp rfl trivial, wp rfl trivial, wp rfl trivial, wp rfl trivial, trivial⟩, ?_, ?_⟩
       ·have hJ' : tkB p0 p1 p2 p3 m0 m1 m2 m3 m4 m5 3 = true := hJ
        show tkB p0 p1 p2 p3 m0 m1 m2 m3 m4 m5 (3 + 1) = true
        simp [tkB, e0] at hJ' ⊢
        try simp [hJ']
       ·exact ⟨bk rfl rfl, bk rfl rfl, bk rfl rfl, bk rfl rfl, bk rfl rfl, bk rfl rfl, trivial⟩
       ·trivial
     ·refine If.mk (fun _ => ?_) (fun h => absurd (by decide) h)
      refine ifY ?_
      refine If.mk (fun ga => ?_) (fun ga => ?_)
      ·refine If.mk (fun gb => ?_) (fun gb => ?_)
       ·refine RoundG.fresh (n0 := 6) (tolL p0 p1 p2 p3 m0 m1 m2 m3 m4 m5 .ready) rfl ?_ ?_
        ·exact ⟨bk rfl rfl, bk rfl rfl, bk rfl rfl, bk rfl rfl, bk rfl rfl, bk rfl rfl, trivial⟩
        refine RoundG.introF (m := false) mixed rfl rfl (by decide) ?_
        refine ⟨rfl, _, rfl, rfl, [(2, .ptr 0 0), (3, .ptr 1 0), (4, .ptr 2 0), (5, n' (4 : Nat)), (6, .ptr 6 0)], tolL p0 p1 p2 p3 m0 m1 m2 m3 m4 m5 .busy ++ [(6, .box [n' (3 : Nat), n' (1 : Nat)] 139)], 7, rfl, ?_, ?_, ?_⟩
        ·exact ⟨⟨_, rfl, Weak.refl _ _⟩, ⟨_, rfl, Weak.refl _ _⟩, ⟨_, rfl, Weak.refl _ _⟩, ⟨_, rfl, Weak.refl _ _⟩, ⟨_, rfl, Weak.refl _ _⟩, trivial⟩
        ·exact ⟨bk rfl rfl, bk rfl rfl, bk rfl rfl, bk rfl rfl, bk rfl rfl, bk rfl rfl, bk rfl rfl, trivial⟩
        have hand := mask_and4 m0 m1 m2 m3 m4 m5
        refine If.mk (fun hz => ?_) (fun hz => ?_)
        ·have hz' : IntKind.i64.wrap (BitVec.ofInt IntKind.i64.bits (maskI m0 m1 m2 m3 m4 m5) &&& BitVec.ofInt IntKind.i64.bits 16).toNat = 0 := hz
         rw [hand] at hz'
         have hm : m4 = false := by cases h : m4 with
          | false => rfl
          | true => rw [h] at hz'; cases hz'
         refine CallG.pure _ (c_never _ _) ?_
         refine ifY ?_
         refine ⟨_, _, rfl, rfl, ?_⟩
         refine ifY ?_
         refine ⟨leb rfl, leb rfl, ?_⟩
         refine .inl ⟨.inl rfl, _, rfl, rfl, ?_⟩
         refine ⟨_, _, rfl, (fun e => by cases e), rfl, ?_⟩
         refine ⟨.inl rfl, FinM.mk _ rfl rfl ?_⟩
         have e0 : okP m4 p3 p1 = false := by simp [okP, ga, gb, hm]
         show AV.lit (.bool false) = nb (toldB p0 p1 p2 p3 m0 m1 m2 m3 m4 m5)
         unfold toldB tkB
         simp [e0, nb]
        ·have hz' : ¬ IntKind.i64.wrap (BitVec.ofInt IntKind.i64.bits (maskI m0 m1 m2 m3 m4 m5) &&& BitVec.ofInt IntKind.i64.bits 16).toNat = 0 := hz
         rw [hand] at hz'
         have hm : m4 = true := by cases h : m4 with
          | true => rfl
          | false => rw [h] at hz'; exact absurd rfl hz'
         refine ifN ?_
         refine ⟨_, _, rfl, rfl, ?_⟩
         have e0 : okP m4 p3 p1 = true := by simp [okP, hm]
         refine ifN ?_
         refine Side.mk (by unfold fitsK; kernel_rfl) ?_
         refine Side.mk (by unfold fitsK; kernel_rfl) ?_
         refine ⟨leb rfl, rfl, by omega, ?_, ⟨wp rfl (ltb rfl), wp rfl (ltb rfl), wp rfl trivial, wp rfl trivial, wp rfl trivial, wp rfl trivial, wp rfl trivial, trivial⟩, ?_, ?_⟩
         ·have hJ' : tkB p0 p1 p2 p3 m0 m1 m2 m3 m4 m5 4 = true := hJ
          show tkB p0 p1 p2 p3 m0 m1 m2 m3 m4 m5 (4 + 1) = true
          simp [tkB, e0] at hJ' ⊢
          try simp [hJ']
         ·exact ⟨bk rfl rfl, bk rfl rfl, bk rfl rfl, bk rfl rfl, bk rfl rfl, bk rfl rfl, trivial⟩
         ·exact ⟨⟨tolB .ready, rfl, under_tolB _⟩, trivial⟩
       ·have e0 : okP m4 p3 p1 = true := by simp [okP, gb]
        refine ifN ?_
        refine Side.mk (by unfold fitsK; kernel_rfl) ?_
        refine Side.mk (by unfold fitsK; kernel_rfl) ?_
        refine ⟨leb rfl, rfl, by omega, ?_, ⟨wp rfl (ltb rfl), wp rfl (ltb rfl), wp rfl trivial, wp rfl trivial, wp rfl trivial, wp rfl trivial, wp rfl trivial, trivial⟩, ?_, ?_⟩
        ·have hJ' : tkB p0 p1 p2 p3 m0 m1 m2 m3 m4 m5 4 = true := hJ
         show tkB p0 p1 p2 p3 m0 m1 m2 m3 m4 m5 (4 + 1) = true
         simp [tkB, e0] at hJ' ⊢
         try simp [hJ']
        ·exact ⟨bk rfl rfl, bk rfl rfl, bk rfl rfl, bk rfl rfl, bk rfl rfl, bk rfl rfl, trivial⟩
        ·trivial
      ·have e0 : okP m4 p3 p1 = true := by simp [okP, ga]
       refine ifN ?_
       refine Side.mk (by unfold fitsK; kernel_rfl) ?_
       refine Side.mk (by unfold fitsK; kernel_rfl) ?_
       refine ⟨leb rfl, rfl, by omega, ?_, ⟨wp rfl (ltb rfl), wp rfl (ltb rfl), wp rfl trivial, wp rfl trivial, wp rfl trivial, wp rfl trivial, wp rfl trivial, trivial⟩, ?_, ?_⟩
       ·have hJ' : tkB p0 p1 p2 p3 m0 m1 m2 m3 m4 m5 4 = true := hJ
        show tkB p0 p1 p2 p3 m0 m1 m2 m3 m4 m5 (4 + 1) = true
        simp [tkB, e0] at hJ' ⊢
        try simp [hJ']
       ·exact ⟨bk rfl rfl, bk rfl rfl, bk rfl rfl, bk rfl rfl, bk rfl rfl, bk rfl rfl, trivial⟩
       ·trivial
     ·refine If.mk (fun _ => ?_) (fun h => absurd (by decide) h)
      refine ifY ?_
      refine If.mk (fun ga => ?_) (fun ga => ?_)
      ·refine If.mk (fun gb => ?_) (fun gb => ?_)
       ·refine RoundG.fresh (n0 := 6) (tolL p0 p1 p2 p3 m0 m1 m2 m3 m4 m5 .ready) rfl ?_ ?_
        ·exact ⟨bk rfl rfl, bk rfl rfl, bk rfl rfl, bk rfl rfl, bk rfl rfl, bk rfl rfl, trivial⟩
        refine RoundG.introF (m := false) mixed rfl rfl (by decide) ?_
        refine ⟨rfl, _, rfl, rfl, [(2, .ptr 0 0), (3, .ptr 1 0), (4, .ptr 2 0), (5, n' (5 : Nat)), (6, .ptr 6 0)], tolL p0 p1 p2 p3 m0 m1 m2 m3 m4 m5 .busy ++ [(6, .box [n' (3 : Nat), n' (2 : Nat)] 139)], 7, rfl, ?_, ?_, ?_⟩
        ·exact ⟨⟨_, rfl, Weak.refl _ _⟩, ⟨_, rfl, Weak.refl _ _⟩, ⟨_, rfl, Weak.refl _ _⟩, ⟨_, rfl, Weak.refl _ _⟩, ⟨_, rfl, Weak.refl _ _⟩, trivial⟩
        ·exact ⟨bk rfl rfl, bk rfl rfl, bk rfl rfl, bk rfl rfl, bk rfl rfl, bk rfl rfl, bk rfl rfl, trivial⟩
        have hand := mask_and5 m0 m1 m2 m3 m4 m5
        refine If.mk (fun hz => ?_) (fun hz => ?_)
        ·have hz' : IntKind.i64.wrap (BitVec.ofInt IntKind.i64.bits (maskI m0 m1 m2 m3 m4 m5) &&& BitVec.ofInt IntKind.i64.bits 32).toNat = 0 := hz
         rw [hand] at hz'
         have hm : m5 = false := by cases h : m5 with
          | false => rfl
          | true => rw [h] at hz'; cases hz'
         refine CallG.pure _ (c_never _ _) ?_
         refine ifY ?_
         refine ⟨_, _, rfl, rfl, ?_⟩
         refine ifY ?_
         refine ⟨leb rfl, leb rfl, ?_⟩
         refine .inl ⟨.inl rfl, _, rfl, rfl, ?_⟩
         refine ⟨_, _, rfl, (fun e => by cases e), rfl, ?_⟩
         refine ⟨.inl rfl, FinM.mk _ rfl rfl ?_⟩
         have e0 : okP m5 p3 p2 = false := by simp [okP, ga, gb, hm]
         show AV.lit (.bool false) = nb (toldB p0 p1 p2 p3 m0 m1 m2 m3 m4 m5)
         unfold toldB tkB
         simp [e0, nb]
        ·have hz' : ¬ IntKind.i64.wrap (BitVec.ofInt IntKind.i64.bits (maskI m0 m1 m2 m3 m4 m5) &&& BitVec.ofInt IntKind.i64.bits 32).toNat = 0 := hz
         rw [hand] at hz'
         have hm : m5 = true := by cases h : m5 with
          | true => rfl
          | false => rw [h] at hz'; exact absurd rfl hz'
         refine ifN ?_
         refine ⟨_, _, rfl, rfl, ?_⟩
         have e0 : okP m5 p3 p2 = true := by simp [okP, hm]
         refine ifN ?_
         refine Side.mk (by unfold fitsK; kernel_rfl) ?_
         refine Side.mk (by unfold fitsK; kernel_rfl) ?_
         refine ⟨leb rfl, rfl, by omega, ?_, ⟨wp rfl (ltb rfl), wp rfl (ltb rfl), wp rfl trivial, wp rfl trivial, wp rfl trivial, wp rfl trivial, wp rfl trivial, trivial⟩, ?_, ?_⟩
         ·have hJ' : tkB p0 p1 p2 p3 m0 m1 m2 m3 m4 m5 5 = true := hJ
          show tkB p0 p1 p2 p3 m0 m1 m2 m3 m4 m5 (5 + 1) = true
          simp [tkB, e0] at hJ' ⊢
          try simp [hJ']
         ·exact ⟨bk rfl rfl, bk rfl rfl, bk rfl rfl, bk rfl rfl, bk rfl rfl, bk rfl rfl, trivial⟩
         ·exact ⟨⟨tolB .ready, rfl, under_tolB _⟩, trivial⟩
       ·have e0 : okP m5 p3 p2 = true := by simp [okP, gb]
        refine ifN ?_
        refine Side.mk (by unfold fitsK; kernel_rfl) ?_
        refine Side.mk (by unfold fitsK; kernel_rfl) ?_
        refine ⟨leb rfl, rfl, by omega, ?_, ⟨wp rfl (ltb rfl), wp rfl (ltb rfl), wp rfl trivial, wp rfl trivial, wp rfl trivial, wp rfl trivial, wp rfl trivial, trivial⟩, ?_, ?_⟩
        ·have hJ' : tkB p0 p1 p2 p3 m0 m1 m2 m3 m4 m5 5 = true := hJ
         show tkB p0 p1 p2 p3 m0 m1 m2 m3 m4 m5 (5 + 1) = true
         simp [tkB, e0] at hJ' ⊢
         try simp [hJ']
        ·exact ⟨bk rfl rfl, bk rfl rfl, bk rfl rfl, bk rfl rfl, bk rfl rfl, bk rfl rfl, trivial⟩
        ·trivial
      ·have e0 : okP m5 p3 p2 = true := by simp [okP, ga]
       refine ifN ?_
       refine Side.mk (by unfold fitsK; kernel_rfl) ?_
       refine Side.mk (by unfold fitsK; kernel_rfl) ?_
       refine ⟨leb rfl, rfl, by omega, ?_, ⟨wp rfl (ltb rfl), wp rfl (ltb rfl), wp rfl trivial, wp rfl trivial, wp rfl trivial, wp rfl trivial, wp rfl trivial, trivial⟩, ?_, ?_⟩
       ·have hJ' : tkB p0 p1 p2 p3 m0 m1 m2 m3 m4 m5 5 = true := hJ
        show tkB p0 p1 p2 p3 m0 m1 m2 m3 m4 m5 (5 + 1) = true
        simp [tkB, e0] at hJ' ⊢
        try simp [hJ']
       ·exact ⟨bk rfl rfl, bk rfl rfl, bk rfl rfl, bk rfl rfl, bk rfl rfl, bk rfl rfl, trivial⟩
       ·trivial
     ·refine If.mk (fun h => absurd h (by decide)) (fun _ => ?_)
      refine ifN ?_
      refine ⟨leb rfl, ?_⟩
      refine Side.mk (fits64 (by omega)) ?_
      refine ⟨leb rfl, rfl, by omega, hJ, ⟨wp rfl (ltb rfl), wp rfl (ltb rfl), wp rfl trivial, wp rfl trivial, trivial⟩, ?_, ?_⟩
      ·exact ⟨bk rfl rfl, bk rfl rfl, bk rfl rfl, bk rfl rfl, bk rfl rfl, bk rfl rfl, trivial⟩
      ·exact ⟨⟨_, rfl, trivial, trivial⟩, ⟨_, rfl, under_posC _ _ _ _ _ _ _ _ _ _ _⟩, ⟨_, rfl, trivial⟩, ⟨tolB .ready, rfl, under_tolB _⟩, trivial⟩
   ·refine If.mk (fun h => absurd h (by decide)) (fun _ => ?_)
    refine ifN ?_
    refine ⟨leb rfl, ?_⟩
    refine .inl ⟨.inr rfl, _, rfl, rfl, ?_⟩
    refine ⟨_, _, rfl, (fun e => by cases e), rfl, ?_⟩
    refine ⟨.inl rfl, FinM.mk _ rfl rfl ?_⟩
    have hI' : toldB p0 p1 p2 p3 m0 m1 m2 m3 m4 m5 = true := hI
    rw [hI']
    rfl
end Go.Vm

namespace Go.Vm
open Go.Proofs
set_option maxRecDepth 100000 in
theorem c_cloneI00 (cap : Nat) (H : List Blk) : ACall Tryz.prog 112 [.lit (.slice none 0 cap)] H (.ret (.lit (.slice none 0 0))) H := by
 refine fn_rule (m := false) (fn := Tryz.f112) (c := (Tryz.f112.body).getD .skip) mixed (by kernel_rfl) (by kernel_rfl) (of_decide_eq_true (by kernel_rfl)) ?_ ?_ ?_ H
 ·exact ⟨trivial, trivial⟩
 ·trivial
 ·refine ifY ?_
  exact ⟨.inl rfl, FinG.mk _ rfl rfl rfl⟩
set_option maxRecDepth 100000 in
theorem c_cloneI01 (a : Addr) (cap : Nat) (H : List Blk) : ACall Tryz.prog 112 [.lit (.slice (some a) 0 cap)] H (.ret (.sl 0 [] .full)) H := by
 refine fn_rule (m := false) (fn := Tryz.f112) (c := (Tryz.f112.body).getD .skip) mixed (by kernel_rfl) (by kernel_rfl) (of_decide_eq_true (by kernel_rfl)) ?_ ?_ ?_ H
 ·exact ⟨trivial, trivial⟩
 ·exact ⟨trivial, trivial⟩
 ·refine ifN ?_
  refine Ex.mk _ rfl ?_
  exact ⟨.inl rfl, FinG.mk _ rfl rfl rfl⟩
set_option maxRecDepth 100000 in
theorem CallG.cloneI {l : List Int} {t : Trie Blk} {n : Nat} {K Kp : AV → Trie Blk → Nat → Nat → Prop} (hl : l.length < 1000000) (hn : n ≤ noLo) (k : K (.sl l.length (l.map n') (.own n 0 1)) (set t n (.row 0)) (n + 1) noLo) : CallG Tryz.prog 112 [eInts l] t n K Kp := by
 refine .ret fun H hH => ?_
 have hlen := hH.len
 have hrow : (H ++ [Blk.row 0])[n]? = some (.row 0) := by rw [← hlen]; simp
 cases l with
 | nil =>
  refine ⟨_, _, _, noLo, H ++ [.row 0], hH.push _, ?_, Keep.append _ _ _, k⟩
  refine ACall.empty fun b cap => ?_
  cases b with
  | none => exact (c_cloneI00 cap H).more (.row 0) (WeakH.own 1 hrow) rfl
  | some a => exact (c_cloneI01 a cap H).more (.row 0) (WeakH.fullOwn 1 hrow) rfl
 | cons e l =>
  have key : ∃ H', HT (setL t [(n, .row 0)]) (n + 1) H' ∧ ACall Tryz.prog 112 [eInts (e :: l)] H (.ret (.sl (e :: l).length ((e :: l).map n') (.own n 0 1))) H' ∧ Keep H H' noLo := by
   refine fn_new (m := false) (fn := Tryz.f112) (c := (Tryz.f112.body).getD .skip) mixed (by kernel_rfl) (by kernel_rfl) (of_decide_eq_true (by kernel_rfl)) ?_ H hH
   refine ifN ?_
   refine ex_app _ _ (appT_full (e := 3) (bytes := 8) (z := .int .i64 0) (by kernel_rfl) (by kernel_rfl) (by kernel_rfl) (by kernel_rfl) (by kernel_rfl) (src_ints _ (e :: l)) (by simp) rfl (by simp at hl ⊢; omega)) ?_
   refine ⟨.inl rfl, hn, rfl, ⟨⟨get_set_same _ _ _, Nat.lt_succ_self _⟩, trivial⟩, FinF.mk _ rfl rfl ?_⟩
   show AV.sl (0 + (e :: l).length) ([] ++ (e :: l).map n') _ = _
   rw [List.nil_append, Nat.zero_add]
  obtain ⟨H', h1, h2, h3⟩ := key
  exact ⟨_, _, _, noLo, H', h1, h2, h3, k⟩
end Go.Vm

namespace Go.Vm
open Go.Proofs
def prodL {α β : Type} (l : List α) (m : List β) : List (α × β) := l.flatMap fun a => m.map fun b => (a, b)
theorem prodL_length {α β : Type} (m : List β) : ∀ l : List α, (prodL l m).length = l.length * m.length
 | [] => by simp [prodL]
 | a :: l => by
  have ih := prodL_length m l
  unfold prodL at ih ⊢
  rw [List.flatMap_cons, List.length_append, ih, List.length_map, List.length_cons, Nat.succ_mul, Nat.add_comm]
theorem prodL_mem {α β : Type} {l : List α} {m : List β} {a : α} {b : β} (ha : a ∈ l) (hb : b ∈ m) : (a, b) ∈ prodL l m :=
 List.mem_flatMap.2 ⟨a, ha, List.mem_map.2 ⟨b, hb, rfl⟩⟩
def r2 : List Bool := [false, true]
theorem r2_mem (b : Bool) : b ∈ r2 := by cases b <;> simp [r2]
def tv : AV := .lit (.bool true)
theorem isI64_small {n : Int} (h : -1 ≤ n ∧ n ≤ 1000) : isI64 (.int .i64 n) = true := by
 unfold isI64
 rw [Bool.and_eq_true, decide_eq_true_iff, decide_eq_true_iff]
 omega
set_option maxRecDepth 100000 in
theorem c_index (l : List Int) (x : Int) (hl : l.length < 4611686018427387904) (H : List Blk) : ACall Tryz.prog 161 [eInts l, n' x] H (.ret (n' (idxOf (fun y => x = y) l))) H := by
 refine fn_rule (m := false) (fn := Tryz.f161) (c := (Tryz.f161.body).getD .skip) mixed (by kernel_rfl) (by kernel_rfl) (of_decide_eq_true (by kernel_rfl)) ?_ ?_ ?_ H
 ·exact ⟨under_eInts 0 _, trivial, trivial⟩
 ·trivial
 ·refine LoopG.at (n0 := 0) rfl (loop_up mixed (m := false) (fun r => [(0, eInts l), (1, n' x), (7, n' (l.length : Nat)), (8, n' r)]) (fun _ => []) (fun r => ∀ y ∈ l.take r, ¬ x = y) l.length 0 (Nat.zero_le _) (fun _ h => by simp at h) ?_ trivial ?_)
  ·exact ⟨⟨_, rfl, Weak.refl _ _, under_eInts _ _⟩, wp rfl trivial, wp rfl trivial, wp rfl trivial, trivial⟩
  ·intro r hr hI
   refine If.mk (fun h1 => ?_) (fun h1 => ?_)
   ·refine ifY ?_
    have hrl : r < l.length := by omega
    refine Ex.mk _ (jx_ints (r := r) rfl (List.getElem?_eq_getElem hrl)) ?_
    refine Ex.mk _ rfl ?_
    refine If.mk (fun h2 => ?_) (fun h2 => ?_)
    ·refine ifY ?_
     refine ⟨Nat.zero_le _, .inl rfl, FinG.mk _ rfl rfl ?_⟩
     rw [idx_hit hrl hI h2]
     rfl
    ·refine ifN ?_
     refine Side.mk (fits64 (by omega)) ?_
     exact ⟨Nat.zero_le _, rfl, by omega, all_snoc (p := fun y => ¬ x = y) hrl hI h2, ⟨⟨_, rfl, Weak.refl _ _, under_eInts _ _⟩, wp rfl trivial, wp rfl trivial, wp rfl trivial, trivial⟩, trivial, trivial⟩
   ·refine ifN ?_
    have er : r = l.length := by omega
    subst er
    rw [List.take_length] at hI
    refine ⟨Nat.zero_le _, .inl rfl, FinG.mk _ rfl rfl ?_⟩
    rw [idx_miss hI]
    rfl
set_option maxRecDepth 100000 in
theorem c_contains (l : List Int) (x : Int) (hl : l.length < 4611686018427387904) (H : List Blk) : ACall Tryz.prog 108 [eInts l, n' x] H (.ret (.lit (.bool (decide (x ∈ l))))) H := by
 have key : 0 ≤ idxOf (fun y => x = y) l ↔ x ∈ l := idx_nonneg.trans ⟨fun ⟨y, h1, h2⟩ => by rw [h2]; exact h1, fun h => ⟨x, h, rfl⟩⟩
 refine fn_rule (m := false) (fn := Tryz.f108) (c := (Tryz.f108.body).getD .skip) mixed (by kernel_rfl) (by kernel_rfl) (of_decide_eq_true (by kernel_rfl)) ?_ ?_ ?_ H
 ·exact ⟨under_eInts 0 _, trivial, trivial⟩
 ·trivial
 ·refine CallG.pure _ (c_index l x hl) ?_
  refine If.mk (fun h => ?_) (fun h => ?_)
  ·exact ⟨.inl rfl, FinG.yes rfl rfl (key.1 h)⟩
  ·exact ⟨.inl rfl, FinG.no rfl rfl (fun e => h (key.2 e))⟩
def cuesI (l : List Nat) : List Int := l.map fun c : Nat => (c : Int)
def cuesA (l : List Nat) : AV := eInts (cuesI l)
theorem cuesI_length (l : List Nat) : (cuesI l).length = l.length := List.length_map _
theorem cuesI_snoc (l : List Nat) (r : Nat) : cuesI (l ++ [r]) = cuesI l ++ [(r : Int)] := List.map_append
theorem under_cuesA (n : Nat) (l : List Nat) : (cuesA l).under n := under_eInts n _
theorem cuesI_ok {k : Nat} {l : List Nat} (h : OkL k l) : CuesOk k (cuesI l) := fun c hc => by
 obtain ⟨x, hx, rfl⟩ := List.mem_map.1 hc
 have := h x hx
 omega
theorem ACall.weakRet' {P : Program} {f : FuncId} {args : List AV} {H H' : List Blk} {v v' : AV} (h : ACall P f args H (.ret v) H') (hw : ∀ H, WeakH H v v') : ACall P f args H (.ret v') H' := by
 intro O ι w cs hR hargs
 refine (h O ι w cs hR hargs).mono ?_
 rintro e w' ⟨ι', hend, hR', hev, hnon⟩
 refine ⟨ι', ?_, hR', hev, hnon⟩
 cases e with
 | returned c => exact hw H' O ι' w' c hend
 | panicked chain => exact hend.elim
 | outgrown => exact hend.elim
theorem wk_snocI {now : List Int} {r : Nat} {tl : Tail} (H : List Blk) : WeakH H (.sl (now.length + 1) (now.map n' ++ [n' r]) tl) (eInts (now ++ [(r : Int)])) := by
 unfold eInts
 rw [List.length_append, List.map_append]
 exact WeakH.tail _ _ _ H
theorem fn_preE {P : Program} {m : Bool} {f : FuncId} {fn : Func} {c : Code} {args : List AV} {t0 : Trie Blk} {Hp : List Blk} {n0 : Nat} (Pr : AV → Prop) (hm : P.follows .mixedOrders = true) (hf : P.funcs[f]? = some fn) (hb : fn.body = some c) (hn : args.length ≤ fn.ntmps)
  (hH : HT t0 n0 Hp) (ha : AV.unders n0 args) (hp : ∀ B ∈ Hp, B.under n0)
  (h : gCode P m fn.ntmps none c (initVars 0 args) t0 n0 [] noLo fun x e lo => (x = .ret ∨ x = .normal) ∧ n0 ≤ lo ∧ e.defs = [] ∧ ∃ vs v, resT P (get e.t) e.vars fn.results.toList = some vs ∧ (∀ H, WeakH H (resV vs) v) ∧ v.under n0 ∧ Pr v) :
  ∃ v, Pr v ∧ ∀ H2, ACall P f args (Hp ++ H2) (.ret v) (Hp ++ H2) := by
 have e0 := hH.len
 subst e0
 obtain ⟨x, e, lo, H', hH', hk', hrun, hx, hlo, hd, vs, v, hres, hw, hv, hP⟩ := gCode_spec hm c _ _ _ _ _ _ h Hp Hp hH (Keep.refl _ _)
 rw [hd] at hrun
 have hcr : ACall P f args Hp (.ret v) H' := (ACall.intro_marks hf hb hn hrun hx List.nodup_nil (resT_sound hH' hres)).weakRet' hw
 have e : H'.take Hp.length = Hp := by
  refine List.ext_getElem? fun i => ?_
  by_cases hi : i < Hp.length
  ·rw [List.getElem?_take_of_lt hi]; exact hk'.low i (by omega) hi
  ·rw [List.getElem?_eq_none (by rw [List.length_take]; omega), List.getElem?_eq_none (by omega)]
 have hcut := hcr.cut hv (by rw [e]; exact hp)
 rw [e] at hcut
 exact ⟨v, hP, fun H2 => hcut.frame rfl ha hv hp hp H2⟩
theorem wk_tup2F {H : List Blk} {a a' b : AV} (h : WeakH H a a') : WeakH H (.tup [a, b]) (.tup [a', b]) := fun O ι w c x => by
 simp only [VRel] at x ⊢
 obtain ⟨C, hc, hr⟩ := x
 refine ⟨C, hc, ?_⟩
 generalize C.toList = cs at hr ⊢
 match cs, hr with
 | [], hr => simp [VRels] at hr
 | [_], hr => simp [VRels] at hr
 | x :: y :: cs, hr =>
  simp only [VRels] at hr ⊢
  exact ⟨h O ι w x hr.1, hr.2⟩
def firstV (o : Option (List Nat)) : AV := .tup [match o with | none => cuesA [] | some l => cuesA l, nb o.isSome]
theorem under_firstV (n : Nat) (o : Option (List Nat)) : (firstV o).under n := by
 cases o with
 | none => exact ⟨under_cuesA n _, trivial, trivial⟩
 | some l => exact ⟨under_cuesA n _, trivial, trivial⟩
theorem WeakH.fullOwnN {H : List Blk} {r len : Nat} {cells : List AV} {sz : Nat} (hn : cells.length = len * sz) (hr : H[r]? = some (.row 0)) : WeakH H (.sl len cells .full) (.sl len cells (.own r 0 sz)) := fun _ _ _ _ h => by
 simp only [VRel] at h ⊢
 obtain ⟨base, cap, hc, hle, hcells, ht⟩ := h
 exact ⟨base, cap, hc, hle, hcells, hn, 0, hr, Nat.le_refl _, fun _ => .inl ht⟩
end Go.Vm

namespace Go.Vm
open Go.Proofs
def bgI (l : List Int) (n : Nat) : Int := if (n : Int) ∈ l then 0 else -1
def bgR (l : List Int) (r n : Nat) : Int := if n < r then bgI l n else 0
set_option maxHeartbeats 4000000 in
set_option maxRecDepth 100000 in
theorem c_posBegun (l : List Int) (hl : l.length < 4611686018427387904) (H : List Blk) : ACall Tryz.prog 58 [eInts l] H (.ret (.agg (posC (bgI l 0) (bgI l 1) (bgI l 2) (bgI l 3) false false false false false false))) H := by
 refine fn_rule (m := false) (fn := Tryz.f58) (c := (Tryz.f58.body).getD .skip) mixed (by kernel_rfl) (by kernel_rfl) (of_decide_eq_true (by kernel_rfl)) ?_ ?_ ?_ H
 ·exact ⟨under_eInts 0 _, trivial⟩
 ·exact under_posC 0 _ _ _ _ _ _ _ _ _ _
 ·refine LoopG.at (n0 := 2) rfl (loop_up mixed (m := false) (fun r => [(0, eInts l), (2, .ptr 0 0), (3, .ptr 1 0), (5, n' r)]) (fun r => [(0, .box [n' 0, n' 0, n' 0, n' 0, n' 0] 123), (1, .box [n' (bgR l r 0), n' (bgR l r 1), n' (bgR l r 2), n' (bgR l r 3), n' 0] 123)]) (fun _ => True) 4 1 (leb rfl) trivial ?_ ?_ ?_)
  ·exact ⟨⟨_, rfl, Weak.refl _ _, under_eInts _ _⟩, wp rfl (ltb rfl), wp rfl (ltb rfl), wp rfl trivial, trivial⟩
  ·exact ⟨bk rfl rfl, bk rfl rfl, trivial⟩
  ·intro r hr _
   have hr4 : r = 0 ∨ r = 1 ∨ r = 2 ∨ r = 3 ∨ r = 4 := by omega
   rcases hr4 with rfl | rfl | rfl | rfl | rfl
   ·refine If.mk (fun _ => ?_) (fun h => absurd (by decide) h)
    refine ifY ?_
    refine CallG.bool (c_contains l (0 : Nat) hl) (fun h => ?_) (fun h => ?_)
    ·refine ifN ?_
     refine Side.mk (by unfold fitsK; kernel_rfl) ?_
     refine ⟨leb rfl, rfl, by omega, trivial, ⟨⟨_, rfl, Weak.refl _ _, under_eInts _ _⟩, wp rfl (ltb rfl), wp rfl (ltb rfl), wp rfl trivial, trivial⟩, ⟨bk rfl rfl, ⟨?_, ltb rfl⟩, trivial⟩, trivial⟩
     have e : bgI l 0 = 0 := if_pos h
     show some (Blk.box [n' (bgR l 0 0), n' (bgR l 0 1), n' (bgR l 0 2), n' (bgR l 0 3), n' 0] 123) = _
     simp [bgR, e]
    ·refine ifY ?_
     refine Side.mk (by unfold fitsK; kernel_rfl) ?_
     refine ⟨leb rfl, rfl, by omega, trivial, ⟨⟨_, rfl, Weak.refl _ _, under_eInts _ _⟩, wp rfl (ltb rfl), wp rfl (ltb rfl), wp rfl trivial, trivial⟩, ⟨bk rfl rfl, ⟨?_, ltb rfl⟩, trivial⟩, ⟨_, rfl, trivial, trivial, trivial, trivial, trivial, trivial⟩, trivial⟩
     have e : bgI l 0 = -1 := if_neg h
     show some (Blk.box [n' (-1), n' (bgR l 0 1), n' (bgR l 0 2), n' (bgR l 0 3), n' 0] 123) = _
     simp [bgR, e]
   ·refine If.mk (fun _ => ?_) (fun h => absurd (by decide) h)
    refine ifY ?_
    refine CallG.bool (c_contains l (1 : Nat) hl) (fun h => ?_) (fun h => ?_)
    ·refine ifN ?_
     refine Side.mk (by unfold fitsK; kernel_rfl) ?_
     refine ⟨leb rfl, rfl, by omega, trivial, ⟨⟨_, rfl, Weak.refl _ _, under_eInts _ _⟩, wp rfl (ltb rfl), wp rfl (ltb rfl), wp rfl trivial, trivial⟩, ⟨bk rfl rfl, ⟨?_, ltb rfl⟩, trivial⟩, trivial⟩
     have e : bgI l 1 = 0 := if_pos h
     show some (Blk.box [n' (bgR l 1 0), n' (bgR l 1 1), n' (bgR l 1 2), n' (bgR l 1 3), n' 0] 123) = _
     simp [bgR, e]
    ·refine ifY ?_
     refine Side.mk (by unfold fitsK; kernel_rfl) ?_
     refine ⟨leb rfl, rfl, by omega, trivial, ⟨⟨_, rfl, Weak.refl _ _, under_eInts _ _⟩, wp rfl (ltb rfl), wp rfl (ltb rfl), wp rfl trivial, trivial⟩, ⟨bk rfl rfl, ⟨?_, ltb rfl⟩, trivial⟩, ⟨_, rfl, trivial, trivial, trivial, trivial, trivial, trivial⟩, trivial⟩
     have e : bgI l 1 = -1 := if_neg h
     show some (Blk.box [n' (bgR l 1 0), n' (-1), n' (bgR l 1 2), n' (bgR l 1 3), n' 0] 123) = _
     simp [bgR, e]
   ·refine If.mk (fun _ => ?_) (fun h => absurd (by decide) h)
    refine ifY ?_
    refine CallG.bool (c_contains l (2 : Nat) hl) (fun h => ?_) (fun h => ?_)
    ·refine ifN ?_
     refine Side.mk (by unfold fitsK; kernel_rfl) ?_
     refine ⟨leb rfl, rfl, by omega, trivial, ⟨⟨_, rfl, Weak.refl _ _, under_eInts _ _⟩, wp rfl (ltb rfl), wp rfl (ltb rfl), wp rfl trivial, trivial⟩, ⟨bk rfl rfl, ⟨?_, ltb rfl⟩, trivial⟩, trivial⟩
     have e : bgI l 2 = 0 := if_pos h
     show some (Blk.box [n' (bgR l 2 0), n' (bgR l 2 1), n' (bgR l 2 2), n' (bgR l 2 3), n' 0] 123) = _
     simp [bgR, e]
    ·refine ifY ?_
     refine Side.mk (by unfold fitsK; kernel_rfl) ?_
     refine ⟨leb rfl, rfl, by omega, trivial, ⟨⟨_, rfl, Weak.refl _ _, under_eInts _ _⟩, wp rfl (ltb rfl), wp rfl (ltb rfl), wp rfl trivial, trivial⟩, ⟨bk rfl rfl, ⟨?_, ltb rfl⟩, trivial⟩, ⟨_, rfl, trivial, trivial, trivial, trivial, trivial, trivial⟩, trivial⟩
     have e : bgI l 2 = -1 := if_neg h
     show some (Blk.box [n' (bgR l 2 0), n' (bgR l 2 1), n' (-1), n' (bgR l 2 3), n' 0] 123) = _
     simp [bgR, e]
   ·refine If.mk (fun _ => ?_) (fun h => absurd (by decide) h)
    refine ifY ?_
    refine CallG.bool (c_contains l (3 : Nat) hl) (fun h => ?_) (fun h => ?_)
    ·refine ifN ?_
     refine Side.mk (by unfold fitsK; kernel_rfl) ?_
     refine ⟨leb rfl, rfl, by omega, trivial, ⟨⟨_, rfl, Weak.refl _ _, under_eInts _ _⟩, wp rfl (ltb rfl), wp rfl (ltb rfl), wp rfl trivial, trivial⟩, ⟨bk rfl rfl, ⟨?_, ltb rfl⟩, trivial⟩, trivial⟩
     have e : bgI l 3 = 0 := if_pos h
     show some (Blk.box [n' (bgR l 3 0), n' (bgR l 3 1), n' (bgR l 3 2), n' (bgR l 3 3), n' 0] 123) = _
     simp [bgR, e]
    ·refine ifY ?_
     refine Side.mk (by unfold fitsK; kernel_rfl) ?_
     refine ⟨leb rfl, rfl, by omega, trivial, ⟨⟨_, rfl, Weak.refl _ _, under_eInts _ _⟩, wp rfl (ltb rfl), wp rfl (ltb rfl), wp rfl trivial, trivial⟩, ⟨bk rfl rfl, ⟨?_, ltb rfl⟩, trivial⟩, ⟨_, rfl, trivial, trivial, trivial, trivial, trivial, trivial⟩, trivial⟩
     have e : bgI l 3 = -1 := if_neg h
     show some (Blk.box [n' (bgR l 3 0), n' (bgR l 3 1), n' (bgR l 3 2), n' (-1), n' 0] 123) = _
     simp [bgR, e]
   ·refine If.mk (fun h => absurd h (by decide)) (fun _ => ?_)
    refine ifN ?_
    refine ⟨leb rfl, ?_⟩
    refine ⟨.inl rfl, FinG.mk _ rfl rfl ?_⟩
    show AV.agg [n' (bgR l 4 0), n' (bgR l 4 1), n' (bgR l 4 2), n' (bgR l 4 3), n' 0] = _
    simp [bgR, posC, maskI]
def telH (b : Book) : List Blk := [bBox b, .box [neverV] 121]
noncomputable def telL (b : Book) : List (Nat × Blk) := [(0, bBox b), (1, .box [neverV] 121)]
theorem telH_under (b : Book) : ∀ B ∈ telH b, B.under 2 := fun B hB => by
 rcases List.mem_cons.1 hB with rfl | hB
 ·exact bBox_under _ _
 ·rw [List.mem_singleton] at hB; subst hB; exact ⟨trivial, trivial⟩
theorem posC_flat (p0 p1 p2 p3 : Int) (m0 m1 m2 m3 m4 m5 : Bool) : (AV.agg (posC p0 p1 p2 p3 m0 m1 m2 m3 m4 m5)).flat = true := rfl
set_option maxRecDepth 100000 in
theorem c_tellNext {b : Book} {k c : Nat} (hv : ∀ v ∈ b.vs, VersOk v k) (hc : c < k) (hn : b.vs.length ≤ 4) {p0 p1 p2 p3 : Int} (h0 : PosOk b.vs 0 p0) (h1 : PosOk b.vs 1 p1) (h2 : PosOk b.vs 2 p2) (h3 : PosOk b.vs 3 p3) (m0 m1 m2 m3 m4 m5 : Bool) (H2 : List Blk) :
  ACall Tryz.prog 59 [.agg (posC p0 p1 p2 p3 m0 m1 m2 m3 m4 m5), n' c, .ptr 0 0] (telH b ++ H2) (.ret (.agg (posC (nxI b.vs c 0 p0) (nxI b.vs c 1 p1) (nxI b.vs c 2 p2) (nxI b.vs c 3 p3) (bitB b.vs c m0 1 0 p1 p0) (bitB b.vs c m1 2 0 p2 p0) (bitB b.vs c m2 2 1 p2 p1) (bitB b.vs c m3 3 0 p3 p0) (bitB b.vs c m4 3 1 p3 p1) (bitB b.vs c m5 3 2 p3 p2)))) (telH b ++ H2) := by
 refine fn_pre (m := false) (fn := Tryz.f59) (c := (Tryz.f59.body).getD .skip) (t0 := ofL (telL b)) (n0 := 2) mixed (by kernel_rfl) (by kernel_rfl) (of_decide_eq_true (by kernel_rfl)) (HT.full (l := telL b) ⟨rfl, rfl, trivial⟩ rfl) ?_ (telH_under b) (posC_flat _ _ _ _ _ _ _ _ _ _) ?_ H2
 ·exact ⟨under_posC 2 _ _ _ _ _ _ _ _ _ _, trivial, ltb rfl, trivial⟩
 refine CallG.pure _ (c_posAfter hv hc hn h0 h1 h2 h3 m0 m1 m2 m3 m4 m5) ?_
 exact ⟨.inl rfl, leb rfl, FinF.mk _ rfl rfl rfl⟩
set_option maxRecDepth 100000 in
theorem c_tellDone {b : Book} {p0 p1 p2 p3 : Int} (m0 m1 m2 m3 m4 m5 : Bool) (H2 : List Blk) :
  ACall Tryz.prog 61 [.agg (posC p0 p1 p2 p3 m0 m1 m2 m3 m4 m5), .ptr 1 0] (telH b ++ H2) (.ret (nb (toldB p0 p1 p2 p3 m0 m1 m2 m3 m4 m5))) (telH b ++ H2) := by
 refine fn_pre (m := false) (fn := Tryz.f61) (c := (Tryz.f61.body).getD .skip) (t0 := ofL (telL b)) (n0 := 2) mixed (by kernel_rfl) (by kernel_rfl) (of_decide_eq_true (by kernel_rfl)) (HT.full (l := telL b) ⟨rfl, rfl, trivial⟩ rfl) ?_ (telH_under b) rfl ?_ H2
 ·exact ⟨under_posC 2 _ _ _ _ _ _ _ _ _ _, ltb rfl, trivial⟩
 refine CallG.pure _ (c_told m0 m1 m2 m3 m4 m5) ?_
 exact ⟨.inl rfl, leb rfl, FinF.mk _ rfl rfl rfl⟩
end Go.Vm

namespace Go.Vm
open Go.Proofs
abbrev Pos := (Int × Int × Int × Int) × (Bool × Bool × Bool × Bool × Bool × Bool)
def posA (p : Pos) : List AV := posC p.1.1 p.1.2.1 p.1.2.2.1 p.1.2.2.2 p.2.1 p.2.2.1 p.2.2.2.1 p.2.2.2.2.1 p.2.2.2.2.2.1 p.2.2.2.2.2.2
theorem under_posA (n : Nat) (p : Pos) : AV.unders n (posA p) := under_posC n _ _ _ _ _ _ _ _ _ _
def maskP (p : Pos) : Int := maskI p.2.1 p.2.2.1 p.2.2.2.1 p.2.2.2.2.1 p.2.2.2.2.2.1 p.2.2.2.2.2.2
def posV (p : Pos) : Value := .agg #[.int .i64 p.1.1, .int .i64 p.1.2.1, .int .i64 p.1.2.2.1, .int .i64 p.1.2.2.2, .int .i64 (maskP p)]
def PosK (vs : List Vers) (p : Pos) : Prop := PosOk vs 0 p.1.1 ∧ PosOk vs 1 p.1.2.1 ∧ PosOk vs 2 p.1.2.2.1 ∧ PosOk vs 3 p.1.2.2.2
def nextP (vs : List Vers) (p : Pos) (c : Nat) : Pos :=
 ((nxI vs c 0 p.1.1, nxI vs c 1 p.1.2.1, nxI vs c 2 p.1.2.2.1, nxI vs c 3 p.1.2.2.2),
  (bitB vs c p.2.1 1 0 p.1.2.1 p.1.1, bitB vs c p.2.2.1 2 0 p.1.2.2.1 p.1.1, bitB vs c p.2.2.2.1 2 1 p.1.2.2.1 p.1.2.1, bitB vs c p.2.2.2.2.1 3 0 p.1.2.2.2 p.1.1, bitB vs c p.2.2.2.2.2.1 3 1 p.1.2.2.2 p.1.2.1, bitB vs c p.2.2.2.2.2.2 3 2 p.1.2.2.2 p.1.2.2.1))
def doneP (p : Pos) : Bool := toldB p.1.1 p.1.2.1 p.1.2.2.1 p.1.2.2.2 p.2.1 p.2.2.1 p.2.2.2.1 p.2.2.2.2.1 p.2.2.2.2.2.1 p.2.2.2.2.2.2
theorem maskI_inj : ∀ {a b c d e f a' b' c' d' e' f' : Bool}, maskI a b c d e f = maskI a' b' c' d' e' f' → a = a' ∧ b = b' ∧ c = c' ∧ d = d' ∧ e = e' ∧ f = f' := by
 intro a b c d e f a' b' c' d' e' f' h
 unfold maskI at h
 cases a <;> cases b <;> cases c <;> cases d <;> cases e <;> cases f <;> cases a' <;> cases b' <;> cases c' <;> cases d' <;> cases e' <;> cases f' <;> simp at h ⊢
theorem posV_inj {p q : Pos} : veq (posV p) (posV q) = true ↔ p = q := by
 obtain ⟨⟨a, b, c, d⟩, e⟩ := p
 obtain ⟨⟨a', b', c', d'⟩, e'⟩ := q
 simp only [posV, veq, veqs, Bool.and_true, Bool.and_eq_true, decide_eq_true_eq]
 refine ⟨fun ⟨h1, h2, h3, h4, h5⟩ => ?_, fun h => by cases h; exact ⟨rfl, rfl, rfl, rfl, rfl⟩⟩
 obtain ⟨k1, k2, k3, k4, k5, k6⟩ := maskI_inj h5
 subst h1 h2 h3 h4
 obtain ⟨x1, x2, x3, x4, x5, x6⟩ := e
 obtain ⟨y1, y2, y3, y4, y5, y6⟩ := e'
 simp only at k1 k2 k3 k4 k5 k6
 subst k1 k2 k3 k4 k5 k6
 rfl
def metE (met : List Pos) : List (Value × AV) := met.map fun p => (posV p, tv)
theorem mlook_met {p : Pos} : ∀ {met : List Pos}, mlook (metE met) (posV p) = if p ∈ met then some tv else none
 | [] => rfl
 | q :: met => by
  have ih := mlook_met (p := p) (met := met)
  unfold mlook metE at ih ⊢
  rw [List.map_cons, List.find?_cons]
  by_cases h : veq (posV q) (posV p) = true
  ·have := posV_inj.1 h
   subst this
   simp only [h, Option.map_some]
   rw [if_pos (by simp)]
  ·have hne : ¬ q = p := fun e => h (posV_inj.2 e)
   have h' : veq (posV q) (posV p) = false := by simpa using h
   simp only [h']
   rw [ih]
   by_cases hm : p ∈ met
   ·rw [if_pos hm, if_pos (by simp [hm])]
   ·rw [if_neg hm, if_neg (by simp [hm]; exact fun e => hne e.symm)]
theorem mset_met {p : Pos} : ∀ {met : List Pos}, p ∉ met → mset (metE met) (posV p) tv = metE (met ++ [p])
 | [], _ => rfl
 | q :: met, h => by
  have hne : ¬ veq (posV q) (posV p) = true := fun e => h (by rw [posV_inj.1 e]; simp)
  show (if veq (posV q) (posV p) = true then _ else (posV q, tv) :: mset (metE met) (posV p) tv) = _
  rw [if_neg hne, mset_met fun hm => h (by simp [hm])]
  rfl
def PosS (p : Pos) : Prop := (-1 ≤ p.1.1 ∧ p.1.1 ≤ 1000) ∧ (-1 ≤ p.1.2.1 ∧ p.1.2.1 ≤ 1000) ∧ (-1 ≤ p.1.2.2.1 ∧ p.1.2.2.1 ≤ 1000) ∧ -1 ≤ p.1.2.2.2 ∧ p.1.2.2.2 ≤ 1000
theorem maskI_small (a b c d e f : Bool) : -1 ≤ maskI a b c d e f ∧ maskI a b c d e f ≤ 1000 := by
 cases a <;> cases b <;> cases c <;> cases d <;> cases e <;> cases f <;> decide
theorem shOk_pos {p : Pos} (h : PosS p) : shOk (.arr 5) (posV p) = true := by
 obtain ⟨h1, h2, h3, h4⟩ := h
 simp only [posV, shOk]
 simp only [List.all_cons, List.all_nil, isI64_small h1, isI64_small h2, isI64_small h3, isI64_small h4, isI64_small (maskI_small _ _ _ _ _ _), maskP]
 rfl
theorem aop_lookup {m : Bool} {g : Nat → Option Blk} {n : Nat} {ρ : Operand → Option AV} {o : Oper} {x k : Operand} {id : Nat} {p : Pos} {met : List Pos} (ho : o.op = .lookup 185 x k false) (hx : ρ x = some (.mp id)) (hk : ρ k = some (.agg (posA p))) (hg : g id = some (.map (.arr 5) (metE met))) (hp : PosS p) :
  aopF Tryz.prog m g n ρ o = some (.val (.lit (.bool (decide (p ∈ met)))) .same) := by
 rw [aopF_fun]
 obtain ⟨dst, op, ty, pos, after, guard⟩ := o
 simp only at ho
 subst ho
 have ht : tmap Tryz.prog 185 = some (.arr 5, 123, 4) := by kernel_rfl
 have hz : tz Tryz.prog 4 = some (.bool false) := by kernel_rfl
 have hc : conc (.agg (posA p)) = some (posV p) := rfl
 simp only [aopT, hx, hk, ht, hc, hg, hz, mlook_met]
 rw [if_pos ⟨rfl, shOk_pos hp⟩]
 by_cases hm : p ∈ met
 ·rw [if_pos hm, decide_eq_true hm]; rfl
 ·rw [if_neg hm, decide_eq_false hm]; rfl
theorem aop_update {m : Bool} {g : Nat → Option Blk} {n : Nat} {ρ : Operand → Option AV} {o : Oper} {x k y : Operand} {id : Nat} {p : Pos} {met : List Pos} (ho : o.op = .mapUpdate 185 x k y ∨ o.op = .insert 185 x k y) (hx : ρ x = some (.mp id)) (hk : ρ k = some (.agg (posA p))) (hy : ρ y = some tv) (hg : g id = some (.map (.arr 5) (metE met))) (hp : PosS p) (hm : p ∉ met) :
  aopF Tryz.prog m g n ρ o = some (.val (.lit undef) (.set id (.map (.arr 5) (metE (met ++ [p]))))) := by
 rw [aopF_fun]
 obtain ⟨dst, op, ty, pos, after, guard⟩ := o
 simp only at ho
 have ht : tmap Tryz.prog 185 = some (.arr 5, 123, 4) := by kernel_rfl
 have hc : conc (.agg (posA p)) = some (posV p) := rfl
 rcases ho with rfl | rfl
 ·simp only [aopT, hx, hk, hy, ht, hc, hg, mset_met hm]
  rw [if_pos ⟨rfl, shOk_pos hp⟩]
 ·simp only [aopT, hx, hk, hy, ht, hc, hg, mset_met hm]
  rw [if_pos ⟨rfl, shOk_pos hp⟩]
end Go.Vm

namespace Go.Vm
open Go.Proofs
def r5 : List Int := [-1, 0, 1, 2, 3]
def posAll : List Pos := prodL (prodL r5 (prodL r5 (prodL r5 r5))) (prodL r2 (prodL r2 (prodL r2 (prodL r2 (prodL r2 r2)))))
theorem posAll_length : posAll.length = 40000 := by
 unfold posAll
 simp only [prodL_length]
 rfl
def Small (vs : List Vers) : Prop := ∀ v ∈ vs, v.length ≤ 4
theorem PosOk.small {vs : List Vers} (hs : Small vs) {n : Nat} {p : Int} (h : PosOk vs n p) : -1 ≤ p ∧ p ≤ 3 := by
 rcases h with rfl | ⟨h1, h2, h3⟩
 ·omega
 ·have e : vs.getD n [] = vs[n] := by simp [List.getD, List.getElem?_eq_getElem h2]
  rw [e] at h3
  have := hs _ (List.getElem_mem h2)
  omega
theorem r5_mem {p : Int} (h : -1 ≤ p ∧ p ≤ 3) : p ∈ r5 := by
 have : p = -1 ∨ p = 0 ∨ p = 1 ∨ p = 2 ∨ p = 3 := by omega
 rcases this with rfl | rfl | rfl | rfl | rfl <;> simp [r5]
theorem PosK.all {vs : List Vers} (hs : Small vs) {p : Pos} (h : PosK vs p) : p ∈ posAll := by
 obtain ⟨h0, h1, h2, h3⟩ := h
 obtain ⟨⟨a, b, c, d⟩, x1, x2, x3, x4, x5, x6⟩ := p
 exact prodL_mem (prodL_mem (r5_mem (h0.small hs)) (prodL_mem (r5_mem (h1.small hs)) (prodL_mem (r5_mem (h2.small hs)) (r5_mem (h3.small hs))))) (prodL_mem (r2_mem _) (prodL_mem (r2_mem _) (prodL_mem (r2_mem _) (prodL_mem (r2_mem _) (prodL_mem (r2_mem _) (r2_mem _))))))
theorem PosK.posS {vs : List Vers} (hs : Small vs) {p : Pos} (h : PosK vs p) : PosS p := by
 obtain ⟨h0, h1, h2, h3⟩ := h
 have := h0.small hs
 have := h1.small hs
 have := h2.small hs
 have := h3.small hs
 exact ⟨by omega, by omega, by omega, by omega⟩
theorem PosK.next {vs : List Vers} {k c : Nat} (hv : ∀ v ∈ vs, VersOk v k) (hc : c < k) {p : Pos} (h : PosK vs p) : PosK vs (nextP vs p c) :=
 ⟨nx_ok hv hc h.1, nx_ok hv hc h.2.1, nx_ok hv hc h.2.2.1, nx_ok hv hc h.2.2.2⟩
def wayA (w : Pos × List Nat) : List AV := posA w.1 ++ [cuesA w.2]
def waysA (q : List (Pos × List Nat)) : List AV := q.flatMap wayA
theorem waysA_length : ∀ q : List (Pos × List Nat), (waysA q).length = q.length * 6
 | [] => rfl
 | w :: q => by
  have ih := waysA_length q
  unfold waysA at ih ⊢
  rw [List.flatMap_cons, List.length_append, ih, List.length_cons]
  show 6 + q.length * 6 = _
  omega
theorem waysA_snoc (q : List (Pos × List Nat)) (w : Pos × List Nat) : waysA (q ++ [w]) = waysA q ++ wayA w := by
 unfold waysA
 rw [List.flatMap_append, List.flatMap_cons, List.flatMap_nil, List.append_nil]
theorem under_waysA (n : Nat) : ∀ q : List (Pos × List Nat), AV.unders n (waysA q)
 | [] => trivial
 | w :: q => unders_append (unders_append (under_posA n w.1) ⟨under_cuesA n w.2, trivial⟩) (under_waysA n q)
theorem jx_way {w : Pos × List Nat} {q : List (Pos × List Nat)} {tl : Tail} : indexOp Tryz.prog 188 (.sl (w :: q).length (waysA (w :: q)) tl) (.lit (.int .i64 0)) = some (.eptr (wayA w)) := by
 refine (indexOp_sl (elem := 187) (n := 6) (by kernel_rfl) (by kernel_rfl) ⟨by omega, by simp, by rw [waysA_length, List.length_cons]; omega, by omega⟩).trans ?_
 rfl
theorem aop_sliceW {m : Bool} {g : Nat → Option Blk} {n : Nat} {ρ : Operand → Option AV} {o : Oper} {x i : Operand} {w : Pos × List Nat} {q : List (Pos × List Nat)} {id gen : Nat} (ho : o.op = .slice 188 x (some i) none none) (hx : ρ x = some (.sl (w :: q).length (waysA (w :: q)) (.own id gen 6))) (hi : ρ i = some (n' 1)) :
  aopF Tryz.prog m g n ρ o = some (.val (.sl q.length (waysA q) (.own id gen 6)) .same) := by
 rw [aopF_fun]
 obtain ⟨dst, op, ty, pos, after, guard⟩ := o
 simp only at ho
 subst ho
 have hu : Tryz.prog.underlying 188 = some (.slice 187) := by kernel_rfl
 have hs : tsz Tryz.prog 187 = some 6 := by kernel_rfl
 have hl := waysA_length q
 have hlw := waysA_length (w :: q)
 have e : sliceA Tryz.prog 188 (.sl (w :: q).length (waysA (w :: q)) (.own id gen 6)) (some 1) none none = some (.sl q.length (waysA q) (.own id gen 6)) := by
  unfold sliceA
  simp only [hu, hs]
  rw [if_pos ⟨by simp, by simp, by simp, by simp, hlw, by omega⟩]
  have e1 : (waysA (w :: q)).drop (1 * 6) = waysA q := rfl
  simp only [Option.getD_some, Option.getD_none, List.length_cons, Nat.add_sub_cancel]
  rw [e1, List.take_of_length_le (by omega)]
  rfl
 have hn : natOf (some (n' 1)) = some (some 1) := by simp [natOf, n']
 have ha : ∀ H, aop Tryz.prog m H ρ { dst := dst, op := Op.slice 188 x (some i) none none, type := ty, pos := pos, after := after, guard := guard } = some (.val (.sl q.length (waysA q) (.own id gen 6)) H) := fun H => by
  simp only [aop, hx, Option.bind_some, hi, hn, Option.bind_none]
  simp only [natOf, e]
  rfl
 simp only [aopT]
 unfold plainT
 rw [ha]
theorem app_way {g : Nat → Option Blk} {n id gen : Nat} {q : List (Pos × List Nat)} {p : Pos} {x : AV} (h2 : q.length < 2097152) (hg : g id = some (.row gen)) (hx : x.one = true) :
  appT Tryz.prog false g n 188 188 (.sl q.length (waysA q) (.own id gen 6)) (.sl 1 (posA p ++ [x]) .full) = some (.sl (q.length + 1) (waysA q ++ (posA p ++ [x])) (.own id (gen + 1) 6), .set id (.row (gen + 1))) := by
 refine appT_own (e := 187) (bytes := 64) (z := .agg #[.int .i64 0, .int .i64 0, .int .i64 0, .int .i64 0, .int .i64 0, .slice none 0 0]) (by kernel_rfl) (by kernel_rfl) (by kernel_rfl) (by kernel_rfl) (by kernel_rfl) rfl (by omega) (by rw [waysA_length]) (by omega) hg ?_
 show (true && (true && (true && (true && (true && (x.one && true)))))) = true
 rw [hx]; rfl
end Go.Vm

namespace Go.Vm
open Go.Proofs
abbrev nxF : AV := .fn (.func 59) [] [.ptr 0 0]
abbrev dnF : AV := .fn (.func 61) [] [.ptr 1 0]
structure Bf where
 q : List (Pos × List Nat)
 met : List Pos
 g : Nat
def Bd (vs : List Vers) (s : Bf) : Prop := s.met.Nodup ∧ (∀ p ∈ s.met, PosK vs p) ∧ s.q.length ≤ s.met.length ∧ (∀ w ∈ s.q, w.2.length < s.met.length ∧ PosK vs w.1)
theorem Bd.le {vs : List Vers} (hs : Small vs) {s : Bf} (h : Bd vs s) : s.met.length ≤ 40000 := by
 classical
 rw [← posAll_length]
 exact nodup_length h.1 fun p hp => (h.2.1 p hp).all hs
theorem wk_begin {t : Trie Blk} {st : Pos} (hr : get t 4 = some (.row 0)) : Weak t (.sl 1 (posA st ++ [.lit (.slice none 0 0)]) .full) (.sl 1 (waysA [(st, [])]) (.own 4 0 6)) := fun n H hH O ι w c h => by
 have h1 := WeakH.fullOwnN (H := H) (r := 4) (len := 1) (sz := 6) (cells := posA st ++ [.lit (.slice none 0 0)]) rfl (hH.blk _ _ hr) O ι w c h
 exact wk_sl (Weaks.snoc (fun H => wk_nil H) (posA st)) O ι w c h1
theorem wk_way {t : Trie Blk} {q : List (Pos × List Nat)} {p : Pos} {l : List Nat} {r id g : Nat} {tl : Tail} :
  Weak t (.sl (q.length + 1) (waysA q ++ (posA p ++ [.sl ((cuesI l).length + 1) ((cuesI l).map n' ++ [n' r]) tl])) (.own id g 6)) (.sl (q ++ [(p, l ++ [r])]).length (waysA (q ++ [(p, l ++ [r])])) (.own id g 6)) := fun _ H _ => by
 rw [waysA_snoc, List.length_append]
 show WeakH H _ (.sl (q.length + 1) (waysA q ++ (posA p ++ [cuesA (l ++ [r])])) (.own id g 6))
 rw [← List.append_assoc, ← List.append_assoc]
 refine wk_sl (Weaks.snoc (fun H => ?_) _)
 unfold cuesA
 rw [cuesI_snoc]
 exact wk_snocI H
theorem under_metE (n : Nat) : ∀ met : List Pos, AV.unders n ((metE met).map (·.2))
 | [] => trivial
 | _ :: met => ⟨trivial, under_metE n met⟩
def stpB (vs : List Vers) (x : Pos) (l : List Nat) (s : Bf) : Nat → Bf
 | 0 => s
 | r + 1 => if nextP vs x r ∈ (stpB vs x l s r).met then stpB vs x l s r else ⟨(stpB vs x l s r).q ++ [(nextP vs x r, l ++ [r])], (stpB vs x l s r).met ++ [nextP vs x r], (stpB vs x l s r).g + 1⟩
set_option maxHeartbeats 8000000 in
set_option maxRecDepth 100000 in
theorem c_first {b : Book} {k : Nat} (hv : ∀ v ∈ b.vs, VersOk v k) (hk : b.cues = k) (hk4 : k ≤ 4) (hn : b.vs.length ≤ 4) (hs : Small b.vs) {st : Pos} (hst : PosK b.vs st) :
  ∃ v, (∃ o, v = firstV o ∧ Found (nextP b.vs) (fun p => doneP p = true) st k o) ∧ ∀ H2, ACall Tryz.prog 57 [.agg (posA st), n' b.cues, nxF, dnF] (telH b ++ H2) (.ret v) (telH b ++ H2) := by
 refine fn_preE (m := false) (fn := Tryz.f57) (c := (Tryz.f57.body).getD .skip) (t0 := ofL (telL b)) (n0 := 2) _ mixed (by kernel_rfl) (by kernel_rfl) (of_decide_eq_true (by kernel_rfl)) (HT.full (l := telL b) ⟨rfl, rfl, trivial⟩ rfl) ?_ (telH_under b) ?_
 ·exact ⟨under_posA 2 _, trivial, ⟨trivial, ltb rfl, trivial⟩, ⟨trivial, ltb rfl, trivial⟩, trivial⟩
 ·refine Ex.mk _ (aop_update (p := st) (met := []) (id := 3) (.inr rfl) rfl rfl rfl rfl (hst.posS hs) (by simp)) ?_
  refine LoopG.ghost (LoopG.at (n0 := 5) rfl ?_)
  refine loop_r mixed (m := false) (α := { s : Bf // (∃ proc, InvO (nextP b.vs) (fun p => doneP p = true) st k s.q s.met proc) ∧ Bd b.vs s }) (fun a => [(1, n' b.cues), (2, nxF), (3, dnF), (10, .mp 3), (11, .sl a.1.q.length (waysA a.1.q) (.own 4 a.1.g 6))]) (fun a => telL b ++ [(3, .map (.arr 5) (metE a.1.met)), (4, .row a.1.g)]) (fun a => a.1.q.length + (40000 - a.1.met.length)) 3
   ⟨⟨[(st, [])], [st], 0⟩, ⟨_, InvO.begin⟩, ⟨by simp, fun p hp => ?_, by simp, fun w hw => ?_⟩⟩ (leb rfl) ?_ ?_ ?_
  ·rw [List.mem_singleton] at hp; subst hp; exact hst
  ·rw [List.mem_singleton] at hw; subst hw; exact ⟨by simp, hst⟩
  ·exact ⟨wp rfl trivial, ⟨_, rfl, Weak.refl _ _, trivial, ltb rfl, trivial⟩, ⟨_, rfl, Weak.refl _ _, trivial, ltb rfl, trivial⟩, wp rfl (ltb rfl), ⟨_, rfl, wk_begin rfl, under_waysA _ _, ltb rfl⟩, trivial⟩
  ·exact ⟨bk rfl rfl, bk rfl rfl, bk rfl rfl, bk rfl rfl, trivial⟩
  ·rintro ⟨⟨q, met, g⟩, ⟨proc, hI⟩, hb⟩
   have hml := hb.le hs
   cases q with
   | nil =>
    refine If.mk (fun h => absurd h (by show ¬ ((0 : Int) < 0); decide)) (fun _ => ?_)
    refine ifN ?_
    refine ⟨leb rfl, ?_⟩
    exact ⟨.inl rfl, leb rfl, rfl, _, firstV none, rfl, (fun H => wk_tup2F (wk_nil H)), under_firstV _ _, none, rfl, hI.nothing⟩
   | cons w q =>
    obtain ⟨x, l⟩ := w
    refine If.mk (fun _ => ?_) (fun h => absurd (by rw [List.length_cons]; omega) h)
    refine ifY ?_
    refine Ex.mk _ (jx_way) ?_
    refine Ex.mk _ rfl ?_
    refine Ex.mk _ (aop_sliceW (w := (x, l)) (q := q) rfl rfl rfl) ?_
    obtain ⟨hb1, hb2, hb3, hb4⟩ := hb
    have hb2 : ∀ p ∈ met, PosK b.vs p := hb2
    have hb1 : met.Nodup := hb1
    have hb3 : ((x, l) :: q).length ≤ met.length := hb3
    have hb4 : ∀ w ∈ (x, l) :: q, w.2.length < met.length ∧ PosK b.vs w.1 := hb4
    have hml : met.length ≤ 40000 := hml
    have hI : InvO (nextP b.vs) (fun p => doneP p = true) st k ((x, l) :: q) met proc := hI
    obtain ⟨hlx, hPx⟩ := hb4 (x, l) (by simp)
    have hlx : l.length < met.length := hlx
    have hPx : PosK b.vs x := hPx
    refine CallG.at (nb (doneP x)) (fun H hH => ?_) ?_
    ·obtain ⟨H2, rfl⟩ := hH.first2 (B := bBox b) (B' := .box [neverV] 121) rfl rfl
     exact c_tellDone _ _ _ _ _ _ H2
    refine IfB.mk (fun hd => ?_) (fun hd => ?_)
    ·exact ⟨leb rfl, .inl rfl, leb rfl, rfl, _, firstV (some l), rfl, (fun H => WeakH.refl _ H), under_firstV _ _, some l, rfl, hI.found hd⟩
    ·have hI0 := hI.take (by rw [hd]; decide)
     refine LoopG.at (n0 := 6) rfl (loop_up mixed (m := false) (fun r => [(1, n' b.cues), (2, nxF), (3, dnF), (10, .mp 3), (11, .sl (stpB b.vs x l ⟨q, met, g⟩ r).q.length (waysA (stpB b.vs x l ⟨q, met, g⟩ r).q) (.own 4 (stpB b.vs x l ⟨q, met, g⟩ r).g 6)), (12, .ptr 5 0), (35, n' b.cues), (36, n' r)])
      (fun r => telL b ++ [(3, .map (.arr 5) (metE (stpB b.vs x l ⟨q, met, g⟩ r).met)), (4, .row (stpB b.vs x l ⟨q, met, g⟩ r).g), (5, .box (wayA (x, l)) 187)])
      (fun r => InvI (nextP b.vs) (fun p => doneP p = true) st k x l r (stpB b.vs x l ⟨q, met, g⟩ r).q (stpB b.vs x l ⟨q, met, g⟩ r).met proc ∧ Bd b.vs (stpB b.vs x l ⟨q, met, g⟩ r) ∧ (stpB b.vs x l ⟨q, met, g⟩ r).q.length + met.length = q.length + (stpB b.vs x l ⟨q, met, g⟩ r).met.length ∧ l.length < (stpB b.vs x l ⟨q, met, g⟩ r).met.length)
      k 3 (leb rfl) ⟨hI0, ⟨hb1, hb2, ?_, fun w hw => hb4 w (List.mem_cons_of_mem _ hw)⟩, rfl, hlx⟩ ?_ ?_ ?_)
     ·rw [List.length_cons] at hb3; show q.length ≤ met.length; omega
     ·exact ⟨wp rfl trivial, ⟨_, rfl, Weak.refl _ _, trivial, ltb rfl, trivial⟩, ⟨_, rfl, Weak.refl _ _, trivial, ltb rfl, trivial⟩, wp rfl (ltb rfl), ⟨_, rfl, Weak.refl _ _, under_waysA _ _, ltb rfl⟩, wp rfl (ltb rfl), wp rfl trivial, wp rfl trivial, trivial⟩
     ·exact ⟨bk rfl rfl, bk rfl rfl, bk rfl rfl, bk rfl rfl, bk rfl rfl, trivial⟩
     ·intro r hr hJ
      obtain ⟨hJ1, hJ2, hJ3, hJ4⟩ := hJ
      have hstp : stpB b.vs x l ⟨q, met, g⟩ (r + 1) = if nextP b.vs x r ∈ (stpB b.vs x l ⟨q, met, g⟩ r).met then stpB b.vs x l ⟨q, met, g⟩ r else ⟨(stpB b.vs x l ⟨q, met, g⟩ r).q ++ [(nextP b.vs x r, l ++ [r])], (stpB b.vs x l ⟨q, met, g⟩ r).met ++ [nextP b.vs x r], (stpB b.vs x l ⟨q, met, g⟩ r).g + 1⟩ := rfl
      have hke : k = 0 ∨ stpB b.vs x l ⟨q, met, g⟩ k = stpB b.vs x l ⟨q, met, g⟩ k := .inr rfl
      generalize hsr : stpB b.vs x l ⟨q, met, g⟩ r = s at hJ1 hJ2 hJ3 hJ4 hstp ⊢
      obtain ⟨q1, met1, g1⟩ := s
      have hml1 : met1.length ≤ 40000 := hJ2.le hs
      obtain ⟨hn1, hn2, hn3, hn4⟩ := hJ2
      have hn1 : met1.Nodup := hn1
      have hn2 : ∀ p ∈ met1, PosK b.vs p := hn2
      have hn3 : q1.length ≤ met1.length := hn3
      have hn4 : ∀ w ∈ q1, w.2.length < met1.length ∧ PosK b.vs w.1 := hn4
      have hJ1 : InvI (nextP b.vs) (fun p => doneP p = true) st k x l r q1 met1 proc := hJ1
      have hJ3 : q1.length + met.length = q.length + met1.length := hJ3
      have hJ4 : l.length < met1.length := hJ4
      refine If.mk (fun h1 => ?_) (fun h1 => ?_)
      ·refine ifY ?_
       have hrk : r < k := by omega
       have hPy : PosK b.vs (nextP b.vs x r) := hPx.next hv hrk
       refine CallG.at (.agg (posA (nextP b.vs x r))) (fun H hH => ?_) ?_
       ·obtain ⟨H2, rfl⟩ := hH.first2 (B := bBox b) (B' := .box [neverV] 121) rfl rfl
        exact c_tellNext hv hrk hn hPx.1 hPx.2.1 hPx.2.2.1 hPx.2.2.2 _ _ _ _ _ _ H2
       refine Ex.mk _ (aop_lookup (p := nextP b.vs x r) (met := met1) (id := 3) rfl rfl rfl rfl (hPy.posS hs)) ?_
       refine IfB.mk (fun hm => ?_) (fun hm => ?_)
       ·have hm' : nextP b.vs x r ∉ met1 := by simpa using hm
        refine Ex.mk _ (aop_update (p := nextP b.vs x r) (met := met1) (id := 3) (.inl rfl) rfl rfl rfl rfl (hPy.posS hs) hm') ?_
        have e3 : stpB b.vs x l ⟨q, met, g⟩ (r + 1) = ⟨q1 ++ [(nextP b.vs x r, l ++ [r])], met1 ++ [nextP b.vs x r], g1 + 1⟩ := by rw [hstp]; exact if_neg hm'
        have hcl := cuesI_length l
        refine CallG.fresh (n0 := 19) [cuesA l] (telL b ++ [(3, .map (.arr 5) (metE (met1 ++ [nextP b.vs x r]))), (4, .row g1), (5, .box (wayA (x, l)) 187), (6, .box (posA (nextP b.vs x r)) 123)]) rfl (.cons (fun H => WeakH.refl _ H) .nil) ?_ ?_
        ·exact ⟨bk rfl rfl, bk rfl rfl, bk rfl rfl, bk rfl rfl, bk rfl rfl, bk rfl rfl, trivial⟩
        refine CallG.cloneI (l := cuesI l) (by omega) (leb rfl) ?_
        refine ex_app _ _ (app_int (List.length_map _) (by omega) rfl) ?_
        refine ex_app _ _ (app_way (q := q1) (p := nextP b.vs x r) (by omega) rfl rfl) ?_
        refine Side.mk (fits64 (by omega)) ?_
        have hN := hJ1.new hrk hm'
        refine ⟨leb rfl, rfl, by omega, ?_, ⟨wp rfl trivial, ⟨_, rfl, Weak.refl _ _, trivial, ltb rfl, trivial⟩, ⟨_, rfl, Weak.refl _ _, trivial, ltb rfl, trivial⟩, wp rfl (ltb rfl), ⟨_, rfl, by rw [e3]; exact wk_way, under_waysA _ _, ltb rfl⟩, wp rfl (ltb rfl), wp rfl trivial, wp rfl trivial, trivial⟩, ⟨bk rfl rfl, bk rfl rfl, ⟨?_, ltb rfl⟩, ⟨?_, ltb rfl⟩, bk rfl rfl, trivial⟩, ⟨⟨_, rfl, under_metE _ _⟩, ⟨_, rfl, trivial⟩, ⟨_, rfl, unders_append (under_posA _ _) ⟨under_cuesA _ _, trivial⟩⟩, trivial⟩⟩
        ·simp only [e3]
         refine ⟨hN, ⟨?_, fun p hp => ?_, ?_, fun w hw => ?_⟩, ?_, ?_⟩
         ·show (met1 ++ [nextP b.vs x r]).Nodup
          rw [List.nodup_append]
          refine ⟨hn1, by simp, fun a ha c hc hac => ?_⟩
          rw [List.mem_singleton] at hc
          subst hc hac
          exact hm' ha
         ·rcases List.mem_append.1 hp with hp | hp
          ·exact hn2 p hp
          ·rw [List.mem_singleton] at hp; subst hp; exact hPy
         ·show (q1 ++ [_]).length ≤ (met1 ++ [_]).length
          rw [List.length_append, List.length_append]
          exact Nat.add_le_add_right hn3 1
         ·show w.2.length < (met1 ++ [nextP b.vs x r]).length ∧ _
          rw [List.length_append, List.length_singleton]
          rcases List.mem_append.1 hw with hw | hw
          ·obtain ⟨k1, k2⟩ := hn4 w hw
           exact ⟨by omega, k2⟩
          ·rw [List.mem_singleton] at hw; subst hw
           refine ⟨?_, hPy⟩
           show (l ++ [r]).length < _
           rw [List.length_append, List.length_singleton]
           omega
         ·show (q1 ++ [_]).length + met.length = q.length + (met1 ++ [_]).length
          rw [List.length_append, List.length_append, List.length_singleton, List.length_singleton]
          omega
         ·show l.length < (met1 ++ [_]).length
          rw [List.length_append]
          omega
        ·rw [e3]; rfl
        ·rw [e3]; rfl
       ·have hm' : nextP b.vs x r ∈ met1 := by simpa using hm
        have e3 : stpB b.vs x l ⟨q, met, g⟩ (r + 1) = ⟨q1, met1, g1⟩ := by rw [hstp]; exact if_pos hm'
        refine Side.mk (fits64 (by omega)) ?_
        refine ⟨leb rfl, rfl, by omega, ?_, ⟨wp rfl trivial, ⟨_, rfl, Weak.refl _ _, trivial, ltb rfl, trivial⟩, ⟨_, rfl, Weak.refl _ _, trivial, ltb rfl, trivial⟩, wp rfl (ltb rfl), ⟨_, rfl, by rw [e3]; exact Weak.refl _ _, under_waysA _ _, ltb rfl⟩, wp rfl (ltb rfl), wp rfl trivial, wp rfl trivial, trivial⟩, ⟨bk rfl rfl, bk rfl rfl, ⟨?_, ltb rfl⟩, ⟨?_, ltb rfl⟩, bk rfl rfl, trivial⟩, trivial⟩
        ·simp only [e3]
         exact ⟨hJ1.old hm', ⟨hn1, hn2, hn3, hn4⟩, hJ3, hJ4⟩
        ·rw [e3]; rfl
        ·rw [e3]; rfl
      ·refine ifN ?_
       refine ⟨leb rfl, ?_⟩
       have er : r = k := by omega
       subst er
       refine ⟨leb rfl, rfl, ⟨⟨q1, met1, g1⟩, ⟨_, hJ1.over⟩, ⟨hn1, hn2, hn3, hn4⟩⟩, ?_, ⟨wp rfl trivial, ⟨_, rfl, Weak.refl _ _, trivial, ltb rfl, trivial⟩, ⟨_, rfl, Weak.refl _ _, trivial, ltb rfl, trivial⟩, wp rfl (ltb rfl), ⟨_, rfl, Weak.refl _ _, under_waysA _ _, ltb rfl⟩, trivial⟩, ⟨bk rfl rfl, bk rfl rfl, bk rfl rfl, bk rfl rfl, trivial⟩, ⟨⟨_, rfl, under_metE _ _⟩, ⟨_, rfl, trivial⟩, trivial⟩⟩
       show q1.length + (40000 - met1.length) < ((x, l) :: q).length + (40000 - met.length)
       rw [List.length_cons]
       omega
end Go.Vm

namespace Go.Vm
open Go.Proofs
def tellV : Option (List Nat) → AV
 | none => .tup [.lit (.slice none 0 0), .lit (.int .i64 5)]
 | some l => .tup [cuesA l, .lit (.int .i64 0)]
theorem under_tellV (n : Nat) (o : Option (List Nat)) : (tellV o).under n := by
 cases o with
 | none => exact ⟨trivial, trivial, trivial⟩
 | some l => exact ⟨under_cuesA n _, trivial, trivial⟩
def begP (i j : Int) : Pos := ((bgI [i, j] 0, bgI [i, j] 1, bgI [i, j] 2, bgI [i, j] 3), (false, false, false, false, false, false))
theorem bg_ok {vs : List Vers} {i j : Int} (hv : ∀ v ∈ vs, 0 < v.length) (hi : inI i 0 (vs.length - 1)) (hj : inI j 0 (vs.length - 1)) (n : Nat) : PosOk vs n (bgI [i, j] n) := by
 unfold bgI
 unfold inI at hi hj
 by_cases h : (n : Int) ∈ [i, j]
 ·rw [if_pos h]
  have hn : n < vs.length := by
   simp at h
   omega
  refine .inr ⟨by omega, hn, ?_⟩
  have e : vs.getD n [] = vs[n] := by simp [List.getD, List.getElem?_eq_getElem hn]
  rw [e]
  have := hv _ (List.getElem_mem hn)
  omega
 ·rw [if_neg h]; exact .inl rfl
set_option maxHeartbeats 4000000 in
set_option maxRecDepth 100000 in
theorem c_tell {b : Book} (hl : BLen b) (hB : BOk b) {i j : Int} (hi : inI i 0 (b.vs.length - 1)) (hj : inI j 0 (b.vs.length - 1)) (hij : i ≠ j) :
  ∃ o, Found (nextP b.vs) (fun p => doneP p = true) (begP i j) b.cues.toNat o ∧ ∀ H, ACall Tryz.prog 19 [eBook b, n' i, n' j] H (.ret (tellV o)) H := by
 have hbc := hB.1.1
 have hvn := hB.1.2.2
 unfold inI at hbc hvn
 have hv : ∀ v ∈ b.vs, VersOk v b.cues.toNat := fun v hv => (hB.2 v hv).vers.1
 have hv0 : ∀ v ∈ b.vs, 0 < v.length := fun v hv => (hB.2 v hv).vers.2
 have hs : Small b.vs := fun v hv => by
  have := (hB.2 v hv).2
  unfold inI at this
  omega
 obtain ⟨v, ⟨o, rfl, hF⟩, hc⟩ := c_first (b := b) (k := b.cues.toNat) hv (by omega) (by omega) (by omega) hs (st := begP i j) ⟨bg_ok hv0 hi hj 0, bg_ok hv0 hi hj 1, bg_ok hv0 hi hj 2, bg_ok hv0 hi hj 3⟩
 refine ⟨o, hF, fun H => ?_⟩
 refine fn_rule (m := false) (fn := Tryz.f19) (c := (Tryz.f19.body).getD .skip) mixed (by kernel_rfl) (by kernel_rfl) (of_decide_eq_true (by kernel_rfl)) ?_ ?_ ?_ H
 ·exact ⟨under_eBook 0 _, trivial, trivial, trivial⟩
 ·exact under_tellV 0 _
 ·refine CallG.bool (c_isBook hl) (fun _ => ?_) (fun x => absurd hB x)
  refine CallG.bool (c_hasVersion hB.fit i) (fun _ => ?_) (fun x => absurd hi x)
  refine CallG.bool (c_hasVersion hB.fit j) (fun _ => ?_) (fun x => absurd hj x)
  refine ifN ?_
  refine If.mk (fun h => absurd h (hij)) (fun _ => ?_)
  refine ifN ?_
  refine CallG.weak _ (.cons (fun H => WeakH.tail _ _ _ H) (.nil)) (c_posBegun [i, j] (by simp)) ?_
  cases o with
  | none =>
   refine CallG.at (firstV none) (fun H hH => ?_) ?_
   ·obtain ⟨H2, rfl⟩ := hH.first2 (B := bBox b) (B' := .box [neverV] 121) rfl rfl
    exact hc H2
   refine ifY ?_
   exact ⟨.inl rfl, FinG.mk _ rfl rfl rfl⟩
  | some l =>
   refine CallG.at (firstV (some l)) (fun H hH => ?_) ?_
   ·obtain ⟨H2, rfl⟩ := hH.first2 (B := bBox b) (B' := .box [neverV] 121) rfl rfl
    exact hc H2
   refine ifN ?_
   refine ⟨.inl rfl, FinG.mk _ rfl rfl ?_⟩
   show AV.tup [AV.freeze _ (eInts (cuesI l)), _] = _
   rw [freeze_eInts]
   rfl
end Go.Vm

namespace Go.Vm
open Go.Proofs
def vStep (e : Vers × Nat) (c : Nat) : Vers × Nat := (e.1, (mv e.1 e.2 c).1.toNat)
def vOut (e : Vers × Nat) (c : Nat) : Int := (mv e.1 e.2 c).2
theorem tr_plays (v : Vers) : ∀ (l : List Nat) (s : Nat), trM vStep vOut (v, s) l = plays v s (cuesI l)
 | [], _ => rfl
 | c :: l, s => by
  show vOut (v, s) c :: trM vStep vOut (v, (mv v s c).1.toNat) l = (mv v s ((c : Int)).toNat).2 :: plays v (mv v s ((c : Int)).toNat).1.toNat (cuesI l)
  rw [tr_plays v l, Int.toNat_natCast]
  rfl
structure TellR (v w : Vers) (k : Nat) (o : Option (List Nat)) : Prop where
 no : o = none → ∀ u, OkL k u → plays v 0 (cuesI u) = plays w 0 (cuesI u)
 yes : ∀ l, o = some l → OkL k l ∧ plays v 0 (cuesI l) ≠ plays w 0 (cuesI l) ∧ ∀ u, OkL k u → plays v 0 (cuesI u) ≠ plays w 0 (cuesI u) → LE l u
end Go.Vm

namespace Go.Vm
open Go.Proofs
def erI (vs : List Vers) (L : List Int) (l : List Nat) (n : Nat) : Int := if (n : Int) ∈ L then (after (vs.getD n []) 0 (cuesI l) : Nat) else -1
def plN (vs : List Vers) (n : Nat) (l : List Nat) : List Int := plays (vs.getD n []) 0 (cuesI l)
def brB (vs : List Vers) (L : List Int) (l : List Nat) (a b : Nat) : Bool := decide ((a : Int) ∈ L ∧ (b : Int) ∈ L ∧ plN vs a l ≠ plN vs b l)
def posRun (vs : List Vers) (L : List Int) (l : List Nat) : Pos :=
 ((erI vs L l 0, erI vs L l 1, erI vs L l 2, erI vs L l 3), (brB vs L l 1 0, brB vs L l 2 0, brB vs L l 2 1, brB vs L l 3 0, brB vs L l 3 1, brB vs L l 3 2))
section
variable {vs : List Vers} {k : Nat} {L : List Int} (hv : ∀ v ∈ vs, VersOk v k) (hv0 : ∀ v ∈ vs, 0 < v.length) (hL : ∀ n : Nat, (n : Int) ∈ L → n < vs.length)
include hv hv0 hL
theorem run_at {n c : Nat} {l : List Nat} (hl : OkL k l) (hc : c < k) (hn : (n : Int) ∈ L) :
  nxI vs c n (erI vs L l n) = erI vs L (l ++ [c]) n ∧ tuI vs c n (erI vs L l n) = (mv (vs.getD n []) (after (vs.getD n []) 0 (cuesI l)) c).2 ∧ plN vs n (l ++ [c]) = plN vs n l ++ [(mv (vs.getD n []) (after (vs.getD n []) 0 (cuesI l)) c).2] := by
 have hlt := hL n hn
 have e : vs.getD n [] = vs[n] := by simp [List.getD, List.getElem?_eq_getElem hlt]
 have hvn := hv _ (List.getElem_mem hlt)
 have h0 := hv0 _ (List.getElem_mem hlt)
 rw [← e] at hvn h0
 have hs := after_lt hvn (cuesI_ok hl) h0
 obtain ⟨x, _, _, _, h4⟩ := mv_at hvn hs hc
 have hp : (0 : Int) ≤ (after (vs.getD n []) 0 (cuesI l) : Nat) := by omega
 unfold erI nxI tuI plN
 rw [if_pos hn, if_pos hn, if_pos hp, if_pos hp, cuesI_snoc, after_snoc, plays_snoc, Int.toNat_natCast, Int.toNat_natCast]
 exact ⟨h4.symm, rfl, rfl⟩
omit hv hv0 hL in
theorem run_not {n c : Nat} {l : List Nat} (hn : (n : Int) ∉ L) : nxI vs c n (erI vs L l n) = erI vs L (l ++ [c]) n := by
 unfold erI nxI
 rw [if_neg hn, if_neg hn]
 rfl
theorem nx_run (n : Nat) {c : Nat} {l : List Nat} (hl : OkL k l) (hc : c < k) : nxI vs c n (erI vs L l n) = erI vs L (l ++ [c]) n := by
 by_cases hn : (n : Int) ∈ L
 ·exact (run_at hv hv0 hL hl hc hn).1
 ·exact run_not hn
omit hv hv0 hL in
theorem er_pos {n : Nat} {l : List Nat} : 0 ≤ erI vs L l n ↔ (n : Int) ∈ L := by
 unfold erI
 by_cases hn : (n : Int) ∈ L
 ·rw [if_pos hn]; exact ⟨fun _ => hn, fun _ => by omega⟩
 ·rw [if_neg hn]; exact ⟨fun h => by omega, fun h => absurd h hn⟩
theorem bit_run (a b : Nat) {c : Nat} {l : List Nat} (hl : OkL k l) (hc : c < k) : bitB vs c (brB vs L l a b) a b (erI vs L l a) (erI vs L l b) = brB vs L (l ++ [c]) a b := by
 unfold bitB
 by_cases ha : (a : Int) ∈ L
 ·by_cases hb : (b : Int) ∈ L
  ·obtain ⟨_, a2, a3⟩ := run_at hv hv0 hL hl hc ha
   obtain ⟨_, b2, b3⟩ := run_at hv hv0 hL hl hc hb
   rw [a2, b2, decide_eq_true (er_pos.2 ha), decide_eq_true (er_pos.2 hb), Bool.true_and, Bool.true_and]
   unfold brB
   rw [Bool.eq_iff_iff, Bool.or_eq_true, decide_eq_true_iff, decide_eq_true_iff, decide_eq_true_iff, a3, b3]
   generalize (mv (vs.getD a []) (after (vs.getD a []) 0 (cuesI l)) c).2 = x
   generalize (mv (vs.getD b []) (after (vs.getD b []) 0 (cuesI l)) c).2 = y
   have hlen : (plN vs a l).length = (plN vs b l).length := by unfold plN; rw [plays_length, plays_length]
   refine ⟨fun h => ⟨ha, hb, fun e => ?_⟩, fun h => ?_⟩
   ·obtain ⟨e1, e2⟩ := List.append_inj e hlen
    injection e2 with e2
    rcases h with h | h
    ·exact h.2.2 e1
    ·exact h e2
   ·by_cases hp : plN vs a l = plN vs b l
    ·refine .inr fun e => h.2.2 ?_
     rw [hp, e]
    ·exact .inl ⟨ha, hb, hp⟩
  ·have h1 : decide (0 ≤ erI vs L l b) = false := decide_eq_false fun h => hb (er_pos.1 h)
   rw [h1, Bool.false_and, Bool.and_false, Bool.or_false]
   unfold brB
   rw [decide_eq_false (fun h => hb h.2.1), decide_eq_false (fun h => hb h.2.1)]
 ·have h1 : decide (0 ≤ erI vs L l a) = false := decide_eq_false fun h => ha (er_pos.1 h)
  rw [h1, Bool.false_and, Bool.or_false]
  unfold brB
  rw [decide_eq_false (fun h => ha h.1), decide_eq_false (fun h => ha h.1)]
theorem next_run {c : Nat} {l : List Nat} (hl : OkL k l) (hc : c < k) : nextP vs (posRun vs L l) c = posRun vs L (l ++ [c]) := by
 unfold posRun nextP
 simp only [nx_run hv hv0 hL _ hl hc, bit_run hv hv0 hL _ _ hl hc]
theorem run_pos (l : List Nat) : OkL k l → runB (nextP vs) (posRun vs L []) l = posRun vs L l := by
 have key : ∀ m : List Nat, OkL k m.reverse → runB (nextP vs) (posRun vs L []) m.reverse = posRun vs L m.reverse := fun m => by
  induction m with
  | nil => intro _; rfl
  | cons c m ih =>
   intro ho
   rw [List.reverse_cons] at ho ⊢
   have hm : OkL k m.reverse := fun x hx => ho x (by simp only [List.mem_append]; exact .inl hx)
   have hc : c < k := ho c (by simp)
   rw [runB_snoc, ih hm, next_run hv hv0 hL hm hc]
 have := key l.reverse
 rwa [List.reverse_reverse] at this
end
theorem begP_run (vs : List Vers) (i j : Int) : begP i j = posRun vs [i, j] [] := by
 have e : ∀ n : Nat, bgI [i, j] n = erI vs [i, j] [] n := fun n => by
  unfold bgI erI
  by_cases h : (n : Int) ∈ [i, j]
  ·rw [if_pos h, if_pos h]; rfl
  ·rw [if_neg h, if_neg h]
 have f : ∀ a b : Nat, brB vs [i, j] [] a b = false := fun a b => decide_eq_false fun h => h.2.2 rfl
 unfold begP posRun
 simp only [e, f]
theorem okP_run {vs : List Vers} {L : List Int} {l : List Nat} {a b : Nat} : okP (brB vs L l a b) (erI vs L l a) (erI vs L l b) = true ↔ ((a : Int) ∈ L → (b : Int) ∈ L → plN vs a l ≠ plN vs b l) := by
 unfold okP brB
 rw [Bool.or_eq_true, decide_eq_true_iff, Bool.not_eq_true', Bool.and_eq_false_iff, decide_eq_false_iff_not, decide_eq_false_iff_not, er_pos, er_pos]
 refine ⟨fun h ha hb => ?_, fun h => ?_⟩
 ·rcases h with h | h | h
  ·exact h.2.2
  ·exact absurd ha h
  ·exact absurd hb h
 ·by_cases ha : (a : Int) ∈ L
  ·by_cases hb : (b : Int) ∈ L
   ·exact .inl ⟨ha, hb, h ha hb⟩
   ·exact .inr (.inr hb)
  ·exact .inr (.inl ha)
theorem done_run {vs : List Vers} {L : List Int} {l : List Nat} : doneP (posRun vs L l) = true ↔
  ((((1 : Nat) : Int) ∈ L → ((0 : Nat) : Int) ∈ L → plN vs 1 l ≠ plN vs 0 l) ∧ (((2 : Nat) : Int) ∈ L → ((0 : Nat) : Int) ∈ L → plN vs 2 l ≠ plN vs 0 l) ∧ (((2 : Nat) : Int) ∈ L → ((1 : Nat) : Int) ∈ L → plN vs 2 l ≠ plN vs 1 l) ∧
   (((3 : Nat) : Int) ∈ L → ((0 : Nat) : Int) ∈ L → plN vs 3 l ≠ plN vs 0 l) ∧ (((3 : Nat) : Int) ∈ L → ((1 : Nat) : Int) ∈ L → plN vs 3 l ≠ plN vs 1 l) ∧ (((3 : Nat) : Int) ∈ L → ((2 : Nat) : Int) ∈ L → plN vs 3 l ≠ plN vs 2 l)) := by
 have e : ∀ n : Nat, n ≤ 5 → decide (6 ≤ n) = false := fun n hn => decide_eq_false (by omega)
 unfold doneP posRun toldB tkB
 simp only [e 0 (by omega), e 1 (by omega), e 2 (by omega), e 3 (by omega), e 4 (by omega), e 5 (by omega), Bool.false_or, Bool.and_eq_true, okP_run]
theorem done_two {vs : List Vers} {i j : Int} {l : List Nat} (hi : 0 ≤ i ∧ i ≤ 3) (hj : 0 ≤ j ∧ j ≤ 3) (hij : i ≠ j) : doneP (posRun vs [i, j] l) = true ↔ plN vs i.toNat l ≠ plN vs j.toNat l := by
 rw [done_run]
 have hi4 : i = 0 ∨ i = 1 ∨ i = 2 ∨ i = 3 := by omega
 have hj4 : j = 0 ∨ j = 1 ∨ j = 2 ∨ j = 3 := by omega
 rcases hi4 with rfl | rfl | rfl | rfl <;> rcases hj4 with rfl | rfl | rfl | rfl <;> first | exact absurd rfl hij | (simp; done) | (simp; exact ⟨fun h e => h e.symm, fun h e => h e.symm⟩)
end Go.Vm

namespace Go.Vm
open Go.Proofs
def plI (vs : List Vers) (n : Int) (l : List Nat) : List Int := plays (vs.getD n.toNat []) 0 (cuesI l)
def lAt (L : List Int) (i : Nat) : Int := L.getD i 0
structure LeftOk (vs : List Vers) (L : List Int) : Prop where
 mem : ∀ n ∈ L, 0 ≤ n ∧ n < vs.length
 few : L.length ≤ 4
section
variable {vs : List Vers} {K : Nat} {L : List Int} (hv : ∀ v ∈ vs, VersOk v K) (hv0 : ∀ v ∈ vs, 0 < v.length) (hs : ∀ v ∈ vs, v.length ≤ 4) (hn : vs.length ≤ 4) (hL : LeftOk vs L)
theorem lAt_mem {i : Nat} (h : i < L.length) : lAt L i ∈ L := by
 have : lAt L i = L[i] := by simp [lAt, List.getD, List.getElem?_eq_getElem h]
 rw [this]
 exact List.getElem_mem h
theorem mem_lAt {n : Int} (h : n ∈ L) : ∃ i, i < L.length ∧ lAt L i = n := by
 obtain ⟨i, hi, e⟩ := List.getElem_of_mem h
 exact ⟨i, hi, by simp [lAt, List.getD, List.getElem?_eq_getElem hi, e]⟩
theorem pl_pl (n : Nat) (l : List Nat) : plN vs n l = plI vs (n : Int) l := by
 unfold plN plI
 rw [Int.toNat_natCast]
include hL hn in
theorem L_nat {n : Int} (h : n ∈ L) : ∃ m : Nat, n = (m : Int) ∧ m < 4 := by
 have := hL.mem n h
 exact ⟨n.toNat, by omega, by omega⟩
end
end Go.Vm

namespace Go.Vm
open Go.Proofs
def fstC (h : Nat → List Nat) : Nat → Nat → List Nat
 | 0, _ => []
 | n + 1, c => if h c = [] then fstC h n (c + 1) else h c
theorem fstC_nil {h : Nat → List Nat} : ∀ {n c : Nat}, fstC h n c = [] → ∀ d, c ≤ d → d < c + n → h d = []
 | 0, c, _, d, h1, h2 => by omega
 | n + 1, c, e, d, h1, h2 => by
  unfold fstC at e
  by_cases hc : h c = []
  ·rw [if_pos hc] at e
   rcases Nat.eq_or_lt_of_le h1 with h3 | h3
   ·rw [← h3]; exact hc
   ·exact fstC_nil e d h3 (by omega)
  ·rw [if_neg hc] at e
   exact absurd e hc
theorem fstC_some {h : Nat → List Nat} : ∀ {n c : Nat}, fstC h n c ≠ [] → ∃ d, c ≤ d ∧ d < c + n ∧ fstC h n c = h d ∧ h d ≠ [] ∧ ∀ a, c ≤ a → a < d → h a = []
 | 0, c, e => absurd rfl e
 | n + 1, c, e => by
  unfold fstC at e ⊢
  by_cases hc : h c = []
  ·rw [if_pos hc] at e ⊢
   obtain ⟨d, h1, h2, h3, h4, h5⟩ := fstC_some e
   refine ⟨d, by omega, by omega, h3, h4, fun a h6 h7 => ?_⟩
   rcases Nat.eq_or_lt_of_le h6 with h8 | h8
   ·rw [← h8]; exact hc
   ·exact h5 a h8 h7
  ·rw [if_neg hc]
   exact ⟨c, by omega, by omega, rfl, hc, fun a h6 h7 => by omega⟩
def hitC (v w : Vers) (D : Nat → Nat → List Nat) (r i j c : Nat) : List Nat :=
 if (mv v i c).2 = (mv w j c).2 then
  (if 0 < (D (mv v i c).1.toNat (mv w j c).1.toNat).length ∧ (D (mv v i c).1.toNat (mv w j c).1.toNat).length + 1 = r then c :: D (mv v i c).1.toNat (mv w j c).1.toNat else [])
 else (if r = 1 then [c] else [])
theorem hitC_length {v w : Vers} {D : Nat → Nat → List Nat} {r i j c : Nat} (h : hitC v w D r i j c ≠ []) : (hitC v w D r i j c).length = r := by
 unfold hitC at h ⊢
 by_cases h1 : (mv v i c).2 = (mv w j c).2
 ·rw [if_pos h1] at h ⊢
  by_cases h2 : 0 < (D (mv v i c).1.toNat (mv w j c).1.toNat).length ∧ (D (mv v i c).1.toNat (mv w j c).1.toNat).length + 1 = r
  ·rw [if_pos h2]
   exact h2.2
  ·rw [if_neg h2] at h
   exact absurd rfl h
 ·rw [if_neg h1] at h ⊢
  by_cases h2 : r = 1
  ·rw [if_pos h2, h2]; rfl
  ·rw [if_neg h2] at h
   exact absurd rfl h
def dF (v w : Vers) (K : Nat) : Nat → Nat → Nat → List Nat
 | 0, _, _ => []
 | r + 1, i, j => if dF v w K r i j = [] then fstC (hitC v w (dF v w K r) (r + 1) i j) K 0 else dF v w K r i j
theorem dF_old {v w : Vers} {K r i j : Nat} (h : dF v w K r i j ≠ []) : dF v w K (r + 1) i j = dF v w K r i j := if_neg h
theorem dF_new {v w : Vers} {K r i j : Nat} (h : dF v w K r i j = []) : dF v w K (r + 1) i j = fstC (hitC v w (dF v w K r) (r + 1) i j) K 0 := if_pos h
def Tells (v w : Vers) (i j : Nat) (u : List Nat) : Prop := plays v i (cuesI u) ≠ plays w j (cuesI u)
theorem tells_cons {v w : Vers} {i j c : Nat} {u : List Nat} : Tells v w i j (c :: u) ↔ (mv v i c).2 ≠ (mv w j c).2 ∨ Tells v w (mv v i c).1.toNat (mv w j c).1.toNat u := by
 unfold Tells
 show ¬ ((mv v i c).2 :: plays v (mv v i c).1.toNat (cuesI u) = (mv w j c).2 :: plays w (mv w j c).1.toNat (cuesI u)) ↔ _
 rw [List.cons.injEq]
 by_cases h : (mv v i c).2 = (mv w j c).2
 ·simp [h]
 ·simp [h]
theorem LE.cons {a b : List Nat} (c : Nat) (h : LE a b) (hl : a.length = b.length) : LE (c :: a) (c :: b) := by
 rcases h with (h | ⟨_, h⟩) | h
 ·omega
 ·exact .inl (.inr ⟨by rw [List.length_cons, List.length_cons, hl], .inr ⟨rfl, h⟩⟩)
 ·rw [h]; exact .inr rfl
structure DOk (v w : Vers) (K r i j : Nat) (l : List Nat) : Prop where
 yes : l ≠ [] → OkL K l ∧ Tells v w i j l ∧ l.length ≤ r ∧ ∀ u, OkL K u → Tells v w i j u → LE l u
 no : l = [] → ∀ u, OkL K u → u.length ≤ r → ¬ Tells v w i j u
theorem okL_cons {K c : Nat} {u : List Nat} : OkL K (c :: u) ↔ c < K ∧ OkL K u := by
 unfold OkL
 simp
theorem dF_ok {v w : Vers} {K : Nat} (hv : VersOk v K) (hw : VersOk w K) : ∀ r i j, i < v.length → j < w.length → DOk v w K r i j (dF v w K r i j)
 | 0, i, j, _, _ => by
  refine ⟨fun h => absurd rfl h, fun _ u _ hl => ?_⟩
  obtain rfl := List.length_eq_zero_iff.1 (by omega : u.length = 0)
  exact fun h => h rfl
 | r + 1, i, j, hi, hj => by
  have ih := dF_ok hv hw r
  by_cases h : dF v w K r i j = []
  ·rw [dF_new h]
   have hno := (ih i j hi hj).no h
   have hit1 : ∀ c, c < K → hitC v w (dF v w K r) (r + 1) i j c ≠ [] → ∃ t, hitC v w (dF v w K r) (r + 1) i j c = c :: t ∧ OkL K (c :: t) ∧ Tells v w i j (c :: t) ∧ ∀ u, OkL K (c :: u) → Tells v w i j (c :: u) → u.length = r → LE (c :: t) (c :: u) := fun c hc hne => by
    obtain ⟨_, _, _, hv', _⟩ := mv_at hv hi hc
    obtain ⟨_, _, _, hw', _⟩ := mv_at hw hj hc
    have ih' := ih _ _ hv' hw'
    have hlen := hitC_length hne
    unfold hitC at hne hlen ⊢
    by_cases h1 : (mv v i c).2 = (mv w j c).2
    ·rw [if_pos h1] at hne hlen ⊢
     by_cases h2 : 0 < (dF v w K r (mv v i c).1.toNat (mv w j c).1.toNat).length ∧ (dF v w K r (mv v i c).1.toNat (mv w j c).1.toNat).length + 1 = r + 1
     ·rw [if_pos h2]
      obtain ⟨k1, k2, _, k4⟩ := ih'.yes (fun e => by rw [e] at h2; simp at h2)
      refine ⟨_, rfl, okL_cons.2 ⟨hc, k1⟩, tells_cons.2 (.inr k2), fun u hu ht hul => ?_⟩
      refine LE.cons c (k4 u (okL_cons.1 hu).2 ?_) (by omega)
      rcases tells_cons.1 ht with h3 | h3
      ·exact absurd h1 h3
      ·exact h3
     ·rw [if_neg h2] at hne
      exact absurd rfl hne
    ·rw [if_neg h1] at hne hlen ⊢
     by_cases h2 : r + 1 = 1
     ·rw [if_pos h2]
      refine ⟨[], rfl, okL_cons.2 ⟨hc, fun _ h => by cases h⟩, tells_cons.2 (.inl h1), fun u _ _ hul => ?_⟩
      obtain rfl := List.length_eq_zero_iff.1 (by omega : u.length = 0)
      exact .inr rfl
     ·rw [if_neg h2] at hne
      exact absurd rfl hne
   have hit2 : ∀ c, c < K → hitC v w (dF v w K r) (r + 1) i j c = [] → ∀ u, OkL K (c :: u) → u.length = r → ¬ Tells v w i j (c :: u) := fun c hc he u hu hul ht => by
    obtain ⟨_, _, _, hv', _⟩ := mv_at hv hi hc
    obtain ⟨_, _, _, hw', _⟩ := mv_at hw hj hc
    have ih' := ih _ _ hv' hw'
    unfold hitC at he
    by_cases h1 : (mv v i c).2 = (mv w j c).2
    ·rw [if_pos h1] at he
     have ht' : Tells v w (mv v i c).1.toNat (mv w j c).1.toNat u := by
      rcases tells_cons.1 ht with h3 | h3
      ·exact absurd h1 h3
      ·exact h3
     by_cases h3 : dF v w K r (mv v i c).1.toNat (mv w j c).1.toNat = []
     ·exact ih'.no h3 u (okL_cons.1 hu).2 (by omega) ht'
     ·obtain ⟨k1, k2, k3, k4⟩ := ih'.yes h3
      have hpos := List.length_pos_iff.2 h3
      by_cases h2 : 0 < (dF v w K r (mv v i c).1.toNat (mv w j c).1.toNat).length ∧ (dF v w K r (mv v i c).1.toNat (mv w j c).1.toNat).length + 1 = r + 1
      ·rw [if_pos h2] at he
       cases he
      ·exact hno (c :: dF v w K r (mv v i c).1.toNat (mv w j c).1.toNat) (okL_cons.2 ⟨hc, k1⟩) (by rw [List.length_cons]; omega) (tells_cons.2 (.inr k2))
    ·rw [if_neg h1] at he
     by_cases h2 : r + 1 = 1
     ·rw [if_pos h2] at he
      cases he
     ·exact hno [c] (okL_cons.2 ⟨hc, fun _ h => by cases h⟩) (by simp; omega) (tells_cons.2 (.inl h1))
   refine ⟨fun hne => ?_, fun he u hu hul ht => ?_⟩
   ·obtain ⟨d, _, hd, e, hdn, hbef⟩ := fstC_some hne
    obtain ⟨t, e2, k1, k2, k3⟩ := hit1 d (by omega) hdn
    have hlen := hitC_length hdn
    rw [e]
    rw [e2] at hlen ⊢
    refine ⟨k1, k2, by omega, fun u hu ht => ?_⟩
    rcases Nat.lt_trichotomy u.length (r + 1) with h3 | h3 | h3
    ·exact absurd ht (hno u hu (by omega))
    ·match u, hu, ht, h3 with
     | c :: u, hu, ht, h3 =>
      have hul : u.length = r := by simpa using h3
      have hc := (okL_cons.1 hu).1
      rcases Nat.lt_trichotomy c d with h4 | h4 | h4
      ·exact absurd ht (hit2 c hc (hbef c (Nat.zero_le _) h4) u hu hul)
      ·subst h4
       exact k3 u hu ht hul
      ·exact .inl (.inr ⟨by rw [hlen, h3], .inl h4⟩)
    ·exact .inl (.inl (by omega))
   ·rcases Nat.lt_or_ge u.length (r + 1) with h3 | h3
    ·exact hno u hu (by omega) ht
    ·match u, hu, ht, hul, h3 with
     | c :: u, hu, ht, hul, h3 =>
      have hc := (okL_cons.1 hu).1
      exact hit2 c hc (fstC_nil he c (Nat.zero_le _) (by omega)) u hu (by simp at hul h3; omega) ht
  ·rw [dF_old h]
   obtain ⟨k1, k2, k3, k4⟩ := (ih i j hi hj).yes h
   exact ⟨fun _ => ⟨k1, k2, by omega, k4⟩, fun e => absurd e h⟩
theorem differ_states {v w : Vers} {k i j : Nat} (hv : VersOk v k) (hw : VersOk w k) (hi : i < v.length) (hj : j < w.length) {l : List Nat} (hl : OkL k l) (hd : Tells v w i j l) : ∃ l', OkL k l' ∧ l'.length < v.length + w.length ∧ Tells v w i j l' := by
 have memv : ∀ s, s < v.length → (v, s) ∈ (List.range v.length).map (fun s => (v, s)) ++ (List.range w.length).map (fun s => (w, s)) := fun s hs => by
  simp only [List.mem_append, List.mem_map, List.mem_range]
  exact .inl ⟨s, hs, rfl⟩
 have memw : ∀ s, s < w.length → (w, s) ∈ (List.range v.length).map (fun s => (v, s)) ++ (List.range w.length).map (fun s => (w, s)) := fun s hs => by
  simp only [List.mem_append, List.mem_map, List.mem_range]
  exact .inr ⟨s, hs, rfl⟩
 obtain ⟨l', h1, h2, h3⟩ := differ_soon (step := vStep) (out := vOut) (k := k) (Q := (List.range v.length).map (fun s => (v, s)) ++ (List.range w.length).map (fun s => (w, s))) (e := (v, i)) (f := (w, j)) (fun e he c hc => by
  simp only [List.mem_append, List.mem_map, List.mem_range] at he
  rcases he with ⟨s, hs, rfl⟩ | ⟨s, hs, rfl⟩
  ·obtain ⟨_, _, _, h3, _⟩ := mv_at hv hs hc
   exact memv _ h3
  ·obtain ⟨_, _, _, h3, _⟩ := mv_at hw hs hc
   exact memw _ h3) (memv i hi) (memw j hj) hl (by rw [tr_plays, tr_plays]; exact hd)
 rw [tr_plays, tr_plays] at h3
 rw [List.length_append, List.length_map, List.length_map, List.length_range, List.length_range] at h2
 exact ⟨l', h1, h2, h3⟩
def dT (v w : Vers) (K i j : Nat) : List Nat := dF v w K (v.length * w.length) i j
theorem rounds_enough {n m : Nat} (hn : 0 < n) (hm : 0 < m) : n + m ≤ n * m + 1 := by
 obtain ⟨a, rfl⟩ : ∃ a, n = a + 1 := ⟨n - 1, by omega⟩
 obtain ⟨b, rfl⟩ : ∃ b, m = b + 1 := ⟨m - 1, by omega⟩
 rw [Nat.add_mul, Nat.mul_add]
 have := Nat.zero_le (a * b)
 omega
theorem dT_ok {v w : Vers} {K i j : Nat} (hv : VersOk v K) (hw : VersOk w K) (hi : i < v.length) (hj : j < w.length) :
  (dT v w K i j ≠ [] → OkL K (dT v w K i j) ∧ Tells v w i j (dT v w K i j) ∧ ∀ u, OkL K u → Tells v w i j u → LE (dT v w K i j) u) ∧ (dT v w K i j = [] → ∀ u, OkL K u → ¬ Tells v w i j u) := by
 obtain ⟨h1, h2⟩ := dF_ok hv hw (v.length * w.length) i j hi hj
 refine ⟨fun h => ?_, fun h u hu ht => ?_⟩
 ·obtain ⟨k1, k2, _, k4⟩ := h1 h
  exact ⟨k1, k2, k4⟩
 ·obtain ⟨l', k1, k2, k3⟩ := differ_states hv hw hi hj hu ht
  have := rounds_enough (n := v.length) (m := w.length) (by omega) (by omega)
  exact h2 h l' k1 (by omega) k3
end Go.Vm

namespace Go.Vm
open Go.Proofs
section
variable {S : Type} [DecidableEq S]
def ixS (x : S) : List S → Nat
 | [] => 0
 | y :: l => if y = x then 0 else ixS x l + 1
def insS (D : List S) (x : S) : List S := if x ∈ D then D else D ++ [x]
def ddS (l : List S) : List S := l.foldl insS []
theorem ixS_lt {x : S} : ∀ {D : List S}, x ∈ D → ixS x D < D.length
 | y :: D, h => by
  unfold ixS
  by_cases e : y = x
  ·rw [if_pos e]; simp
  ·rw [if_neg e, List.length_cons]
   have := ixS_lt (D := D) ((List.mem_cons.1 h).resolve_left fun e' => e e'.symm)
   omega
theorem ixS_app {x : S} {l : List S} : ∀ {D : List S}, x ∈ D → ixS x (D ++ l) = ixS x D
 | y :: D, h => by
  show (if y = x then 0 else ixS x (D ++ l) + 1) = (if y = x then 0 else ixS x D + 1)
  by_cases e : y = x
  ·rw [if_pos e, if_pos e]
  ·rw [if_neg e, if_neg e, ixS_app (D := D) ((List.mem_cons.1 h).resolve_left fun e' => e e'.symm)]
theorem ixS_inj {x y : S} : ∀ {D : List S}, x ∈ D → y ∈ D → ixS x D = ixS y D → x = y
 | z :: D, hx, hy, h => by
  have h : (if z = x then 0 else ixS x D + 1) = (if z = y then 0 else ixS y D + 1) := h
  by_cases ex : z = x
  ·by_cases ey : z = y
   ·rw [← ex, ← ey]
   ·rw [if_pos ex, if_neg ey] at h; omega
  ·by_cases ey : z = y
   ·rw [if_neg ex, if_pos ey] at h; omega
   ·rw [if_neg ex, if_neg ey] at h
    exact ixS_inj ((List.mem_cons.1 hx).resolve_left fun e => ex e.symm) ((List.mem_cons.1 hy).resolve_left fun e => ey e.symm) (by omega)
theorem ixS_all : ∀ {D : List S}, D.Nodup → ∀ i, i < D.length → ∃ x ∈ D, ixS x D = i
 | [], _, i, h => by simp at h
 | y :: D, hn, 0, _ => ⟨y, by simp, if_pos rfl⟩
 | y :: D, hn, i + 1, h => by
  obtain ⟨hy, hD⟩ := List.nodup_cons.1 hn
  obtain ⟨x, hx, e⟩ := ixS_all hD i (by simpa using h)
  refine ⟨x, by simp [hx], ?_⟩
  show (if y = x then 0 else ixS x D + 1) = _
  rw [if_neg fun e' => hy (by rw [e']; exact hx), e]
theorem insS_mem {D : List S} {x y : S} : y ∈ insS D x ↔ y ∈ D ∨ y = x := by
 unfold insS
 by_cases h : x ∈ D
 ·rw [if_pos h]
  exact ⟨.inl, fun h' => h'.elim id fun e => by rw [e]; exact h⟩
 ·rw [if_neg h]; simp
theorem insS_nodup {D : List S} {x : S} (hD : D.Nodup) : (insS D x).Nodup := by
 unfold insS
 by_cases h : x ∈ D
 ·rw [if_pos h]; exact hD
 ·rw [if_neg h]
  refine List.nodup_append.2 ⟨hD, by simp, fun a ha b hb e => ?_⟩
  rw [List.mem_singleton] at hb
  subst hb e
  exact h ha
theorem ddS_snoc (l : List S) (x : S) : ddS (l ++ [x]) = insS (ddS l) x := by unfold ddS; rw [List.foldl_append]; rfl
theorem foldS_mem {y : S} : ∀ (l D : List S), y ∈ l.foldl insS D ↔ y ∈ D ∨ y ∈ l
 | [], D => by simp
 | x :: l, D => by
  show y ∈ l.foldl insS (insS D x) ↔ _
  rw [foldS_mem l, insS_mem, List.mem_cons, or_assoc]
theorem foldS_nodup : ∀ (l D : List S), D.Nodup → (l.foldl insS D).Nodup
 | [], _, h => h
 | x :: l, D, h => foldS_nodup l (insS D x) (insS_nodup h)
theorem foldS_more : ∀ (l D : List S), ∃ E, l.foldl insS D = D ++ E
 | [], D => ⟨[], by simp⟩
 | x :: l, D => by
  obtain ⟨E, e⟩ := foldS_more l (insS D x)
  show ∃ E', l.foldl insS (insS D x) = _
  rw [e]
  unfold insS
  by_cases h : x ∈ D
  ·rw [if_pos h]; exact ⟨E, rfl⟩
  ·rw [if_neg h]; exact ⟨x :: E, by simp⟩
theorem foldS_length : ∀ (l D : List S), (l.foldl insS D).length ≤ D.length + l.length
 | [], _ => Nat.le_refl _
 | x :: l, D => by
  have h := foldS_length l (insS D x)
  have : (insS D x).length ≤ D.length + 1 := by
   unfold insS
   by_cases h : x ∈ D
   ·rw [if_pos h]; omega
   ·rw [if_neg h]; simp
  show (l.foldl insS (insS D x)).length ≤ _
  rw [List.length_cons]
  omega
theorem ddS_mem {l : List S} {y : S} : y ∈ ddS l ↔ y ∈ l := by
 unfold ddS
 rw [foldS_mem]
 simp
theorem ddS_nodup (l : List S) : (ddS l).Nodup := foldS_nodup l [] List.nodup_nil
theorem ddS_length (l : List S) : (ddS l).length ≤ l.length := by
 have := foldS_length l ([] : List S)
 simpa [ddS] using this
theorem ddS_ix {l m : List S} {x : S} (h : x ∈ l) : ixS x (ddS (l ++ m)) = ixS x (ddS l) := by
 obtain ⟨E, e⟩ := foldS_more m (ddS l)
 have : ddS (l ++ m) = ddS l ++ E := by unfold ddS at e ⊢; rw [List.foldl_append, e]
 rw [this, ixS_app (ddS_mem.2 h)]
end
theorem all_nodup : ∀ {n : Nat} {l : List Nat}, (∀ i, i < n → i ∈ l) → n ≤ l.length ∧ (l.length = n → l.Nodup) := fun {n l} h => by
 have key : ∀ m : List Nat, (∀ i, i < n → i ∈ m) → n ≤ m.length := fun m hm => by
  have := nodup_length (l := List.range n) (U := m) List.nodup_range (fun x hx => hm x (List.mem_range.1 hx))
  simpa using this
 refine ⟨key l h, fun e => ?_⟩
 apply Classical.byContradiction
 intro hn
 have : ∃ x a b, l = a ++ x :: b ∧ (x ∈ a ∨ x ∈ b) := by
  clear h key e
  induction l with
  | nil => exact absurd List.nodup_nil hn
  | cons x l ih =>
   by_cases hx : x ∈ l
   ·exact ⟨x, [], l, rfl, .inr hx⟩
   ·obtain ⟨y, a, b, e, hy⟩ := ih fun h => hn (List.nodup_cons.2 ⟨hx, h⟩)
    exact ⟨y, x :: a, b, by rw [e]; rfl, hy.imp (fun h => List.mem_cons_of_mem _ h) id⟩
 obtain ⟨x, a, b, e2, hx⟩ := this
 have := key (a ++ b) fun i hi => by
  have := h i hi
  rw [e2] at this
  rcases List.mem_append.1 this with h1 | h1
  ·exact List.mem_append_left _ h1
  ·rcases List.mem_cons.1 h1 with h2 | h2
   ·subst h2
    rcases hx with hx | hx
    ·exact List.mem_append_left _ hx
    ·exact List.mem_append_right _ hx
   ·exact List.mem_append_right _ h2
 rw [e2] at e
 simp at e this
 omega
abbrev Sta := Nat × Nat
def vAt (vs : List Vers) (n : Nat) : Vers := vs.getD n []
def stS (vs : List Vers) (p : Sta) (c : Nat) : Sta := (p.1, (mv (vAt vs p.1) p.2 c).1.toNat)
def ouS (vs : List Vers) (p : Sta) (c : Nat) : Int := (mv (vAt vs p.1) p.2 c).2
def rowS (vs : List Vers) (n : Nat) : List Sta := (List.range (vAt vs n).length).map fun s => (n, s)
def allP (vs : List Vers) : List Sta := (List.range vs.length).flatMap (rowS vs)
theorem rowS_mem {vs : List Vers} {n : Nat} {p : Sta} : p ∈ rowS vs n ↔ p.1 = n ∧ p.2 < (vAt vs n).length := by
 unfold rowS
 rw [List.mem_map]
 constructor
 ·rintro ⟨s, hs, rfl⟩
  exact ⟨rfl, List.mem_range.1 hs⟩
 ·rintro ⟨h1, h2⟩
  exact ⟨p.2, List.mem_range.2 h2, by rw [← h1]⟩
theorem allP_mem {vs : List Vers} {p : Sta} : p ∈ allP vs ↔ p.1 < vs.length ∧ p.2 < (vAt vs p.1).length := by
 unfold allP
 rw [List.mem_flatMap]
 constructor
 ·rintro ⟨n, hn, hp⟩
  obtain ⟨h1, h2⟩ := rowS_mem.1 hp
  rw [h1]
  exact ⟨List.mem_range.1 hn, h2⟩
 ·rintro ⟨h1, h2⟩
  exact ⟨p.1, List.mem_range.2 h1, rowS_mem.2 ⟨rfl, h2⟩⟩
def sgC (vs : List Vers) (cl : Sta → Nat) (p : Sta) (K c : Nat) : List Int := if c < K then [ouS vs p c, (cl (stS vs p c) : Nat)] else [0, 0]
def sgn (vs : List Vers) (K : Nat) (cl : Sta → Nat) (p : Sta) : List Int := ((cl p : Nat) : Int) :: (sgC vs cl p K 0 ++ (sgC vs cl p K 1 ++ (sgC vs cl p K 2 ++ sgC vs cl p K 3)))
theorem sgC_length (vs : List Vers) (cl : Sta → Nat) (p : Sta) (K c : Nat) : (sgC vs cl p K c).length = 2 := by unfold sgC; split <;> rfl
theorem sgC_eq {vs : List Vers} {cl : Sta → Nat} {p q : Sta} {K c : Nat} : sgC vs cl p K c = sgC vs cl q K c ↔ (c < K → ouS vs p c = ouS vs q c ∧ cl (stS vs p c) = cl (stS vs q c)) := by
 unfold sgC
 by_cases h : c < K
 ·rw [if_pos h, if_pos h]
  simp only [List.cons.injEq, and_true]
  exact ⟨fun ⟨h1, h2⟩ _ => ⟨h1, by omega⟩, fun h' => ⟨(h' h).1, by rw [(h' h).2]⟩⟩
 ·rw [if_neg h, if_neg h]
  exact ⟨fun _ h' => absurd h' h, fun _ => rfl⟩
theorem sgn_eq {vs : List Vers} {K : Nat} (hK : K ≤ 4) {cl : Sta → Nat} {p q : Sta} : sgn vs K cl p = sgn vs K cl q ↔ cl p = cl q ∧ ∀ c, c < K → ouS vs p c = ouS vs q c ∧ cl (stS vs p c) = cl (stS vs q c) := by
 unfold sgn
 rw [List.cons.injEq]
 have ap : ∀ {a b c d : List Int}, a.length = 2 → c.length = 2 → (a ++ b = c ++ d ↔ a = c ∧ b = d) := fun {a b c d} h1 h2 =>
  ⟨fun h => List.append_inj h (by rw [h1, h2]), fun h => by rw [h.1, h.2]⟩
 rw [ap (sgC_length _ _ _ _ _) (sgC_length _ _ _ _ _), ap (sgC_length _ _ _ _ _) (sgC_length _ _ _ _ _), ap (sgC_length _ _ _ _ _) (sgC_length _ _ _ _ _), sgC_eq, sgC_eq, sgC_eq, sgC_eq]
 constructor
 ·rintro ⟨h0, h1, h2, h3, h4⟩
  refine ⟨by omega, fun c hc => ?_⟩
  have : c = 0 ∨ c = 1 ∨ c = 2 ∨ c = 3 := by omega
  rcases this with rfl | rfl | rfl | rfl
  ·exact h1 hc
  ·exact h2 hc
  ·exact h3 hc
  ·exact h4 hc
 ·rintro ⟨h0, h⟩
  exact ⟨by rw [h0], h 0, h 1, h 2, h 3⟩
section
variable (vs : List Vers) (K : Nat)
def clR : Nat → Sta → Nat
 | 0, _ => 0
 | r + 1, p => ixS (sgn vs K (clR r) p) (ddS ((allP vs).map (sgn vs K (clR r))))
def nuR (r : Nat) : List (List Int) := ddS ((allP vs).map (sgn vs K (clR vs K r)))
def manyR : Nat → Nat
 | 0 => 1
 | r + 1 => (nuR vs K r).length
end
section
variable {vs : List Vers} {K : Nat}
theorem sgn_mem {r : Nat} {p : Sta} (h : p ∈ allP vs) : sgn vs K (clR vs K r) p ∈ nuR vs K r := ddS_mem.2 (List.mem_map.2 ⟨p, h, rfl⟩)
theorem clR_succ {r : Nat} {p q : Sta} (hp : p ∈ allP vs) (hq : q ∈ allP vs) : clR vs K (r + 1) p = clR vs K (r + 1) q ↔ sgn vs K (clR vs K r) p = sgn vs K (clR vs K r) q :=
 ⟨fun h => ixS_inj (sgn_mem hp) (sgn_mem hq) h, fun h => by
  show ixS _ _ = ixS _ _
  rw [h]⟩
variable (hv : ∀ v ∈ vs, VersOk v K)
include hv
theorem stS_mem {p : Sta} (hp : p ∈ allP vs) {c : Nat} (hc : c < K) : stS vs p c ∈ allP vs := by
 obtain ⟨h1, h2⟩ := allP_mem.1 hp
 have e : vAt vs p.1 = vs[p.1] := by simp [vAt, List.getD, List.getElem?_eq_getElem h1]
 have hm : vAt vs p.1 ∈ vs := by rw [e]; exact List.getElem_mem h1
 obtain ⟨_, _, _, h3, _⟩ := mv_at (hv _ hm) h2 hc
 exact allP_mem.2 ⟨h1, h3⟩
theorem clR_eq (hK : K ≤ 4) : ∀ (r : Nat) {p q : Sta}, p ∈ allP vs → q ∈ allP vs → (clR vs K r p = clR vs K r q ↔ eqM (stS vs) (ouS vs) K r p q)
 | 0, p, q, _, _ => ⟨fun _ l _ h => by
  obtain rfl := List.length_eq_zero_iff.1 (by omega : l.length = 0)
  rfl, fun _ => rfl⟩
 | r + 1, p, q, hp, hq => by
  rw [clR_succ hp hq, sgn_eq hK, eqM_succ, clR_eq hK r hp hq]
  constructor
  ·rintro ⟨_, h2⟩
   exact ⟨fun c hc => (h2 c hc).1, fun c hc => (clR_eq hK r (stS_mem hv hp hc) (stS_mem hv hq hc)).1 (h2 c hc).2⟩
  ·rintro ⟨h1, h2⟩
   exact ⟨(eqM_succ.2 ⟨h1, h2⟩ : eqM (stS vs) (ouS vs) K (r + 1) p q).less (Nat.le_succ _), fun c hc => ⟨h1 c hc, (clR_eq hK r (stS_mem hv hp hc) (stS_mem hv hq hc)).2 (h2 c hc)⟩⟩
omit hv
theorem clR_all (hne : allP vs ≠ []) : ∀ (r i : Nat), i < manyR vs K r → ∃ p ∈ allP vs, clR vs K r p = i
 | 0, i, h => by
  have h : i < 1 := h
  obtain ⟨p, hp⟩ := List.exists_mem_of_ne_nil _ hne
  exact ⟨p, hp, by show 0 = i; omega⟩
 | r + 1, i, h => by
  obtain ⟨x, hx, e⟩ := ixS_all (ddS_nodup ((allP vs).map (sgn vs K (clR vs K r)))) i h
  obtain ⟨p, hp, rfl⟩ := List.mem_map.1 (ddS_mem.1 hx)
  exact ⟨p, hp, e⟩
theorem many_le (r : Nat) : manyR vs K (r + 1) ≤ (allP vs).length := by
 have := ddS_length ((allP vs).map (sgn vs K (clR vs K r)))
 rwa [List.length_map] at this
theorem heads (hne : allP vs ≠ []) (r : Nat) : manyR vs K r ≤ manyR vs K (r + 1) ∧ (manyR vs K (r + 1) = manyR vs K r → ((nuR vs K r).map fun l => (l.headD 0).toNat).Nodup) := by
 have := all_nodup (n := manyR vs K r) (l := (nuR vs K r).map fun l => (l.headD 0).toNat) fun i hi => by
  obtain ⟨p, hp, e⟩ := clR_all hne r i hi
  refine List.mem_map.2 ⟨_, sgn_mem (r := r) hp, ?_⟩
  show ((clR vs K r p : Nat) : Int).toNat = i
  rw [Int.toNat_natCast, e]
 rw [List.length_map] at this
 exact this
include hv
theorem stable (hK : K ≤ 4) (hne : allP vs ≠ []) {r : Nat} (h : manyR vs K (r + 1) = manyR vs K r) {p q : Sta} (hp : p ∈ allP vs) (hq : q ∈ allP vs) :
  clR vs K (r + 1) p = clR vs K (r + 1) q ↔ ∀ l, OkL K l → trM (stS vs) (ouS vs) p l = trM (stS vs) (ouS vs) q l := by
 have hn := (heads hne r).2 h
 have same : ∀ p ∈ allP vs, ∀ q ∈ allP vs, clR vs K r p = clR vs K r q → clR vs K (r + 1) p = clR vs K (r + 1) q := fun p hp q hq e => by
  rw [clR_succ hp hq]
  have h1 := sgn_mem (K := K) (r := r) hp
  have h2 := sgn_mem (K := K) (r := r) hq
  obtain ⟨i, hi, ei⟩ := List.getElem_of_mem h1
  obtain ⟨j, hj, ej⟩ := List.getElem_of_mem h2
  have hij : i = j := by
   refine (List.getElem_inj (h₀ := by simpa using hi) (h₁ := by simpa using hj) hn).1 ?_
   rw [List.getElem_map, List.getElem_map, ei, ej]
   show ((clR vs K r p : Nat) : Int).toNat = ((clR vs K r q : Nat) : Int).toNat
   rw [e]
  subst hij
  rw [← ei, ← ej]
 have hst : StM (stS vs) (ouS vs) K (allP vs) r := fun e he f hf hef => (clR_eq hv hK (r + 1) he hf).1 (same e he f hf ((clR_eq hv hK r he hf).2 hef))
 rw [clR_eq hv hK (r + 1) hp hq]
 constructor
 ·intro h2 l hl
  exact hst.all (fun e he c hc => stS_mem hv he hc) hp hq (h2.less (Nat.le_succ _)) l.length l hl (by omega)
 ·exact fun h2 l hl _ => h2 l hl
omit hv
theorem many_grows (hne : allP vs ≠ []) : ∀ r : Nat, (∀ q, q < r → manyR vs K (q + 1) ≠ manyR vs K q) → r + 1 ≤ manyR vs K r
 | 0, _ => Nat.le_refl _
 | r + 1, h => by
  have ih := many_grows hne r fun q hq => h q (by omega)
  have := (heads (K := K) hne r).1
  have := h r (by omega)
  omega
end
end Go.Vm

namespace Go.Vm
open Go.Proofs
def intV (l : List Int) : Value := .agg (l.map fun x => Value.int .i64 x).toArray
def kE (es : List (List Int × Int)) : List (Value × AV) := es.map fun p => (intV p.1, n' p.2)
def lookI (es : List (List Int × Int)) (k : List Int) : Option Int := (es.find? fun p => decide (p.1 = k)).map (·.2)
theorem veqs_ints : ∀ {a b : List Int}, veqs (a.map fun x => Value.int .i64 x) (b.map fun x => Value.int .i64 x) = decide (a = b)
 | [], [] => rfl
 | [], _ :: _ => rfl
 | _ :: _, [] => rfl
 | x :: a, y :: b => by
  show (decide (x = y) && veqs (a.map fun x => Value.int .i64 x) (b.map fun x => Value.int .i64 x)) = _
  rw [veqs_ints, Bool.eq_iff_iff, Bool.and_eq_true, decide_eq_true_iff, decide_eq_true_iff, decide_eq_true_iff, List.cons.injEq]
theorem veq_ints (a b : List Int) : veq (intV a) (intV b) = decide (a = b) := by
 show veqs (a.map fun x => Value.int .i64 x).toArray.toList (b.map fun x => Value.int .i64 x).toArray.toList = _
 exact veqs_ints
theorem mlook_ints (k : List Int) : ∀ es, mlook (kE es) (intV k) = (lookI es k).map n'
 | [] => rfl
 | p :: es => by
  have ih := mlook_ints k es
  unfold mlook lookI kE at ih ⊢
  rw [List.map_cons, List.find?_cons, List.find?_cons]
  simp only [veq_ints]
  by_cases h : p.1 = k
  ·simp [h]
  ·simp only [h, decide_false]
   exact ih
theorem lookI_none {es : List (List Int × Int)} {k : List Int} (h : ∀ p ∈ es, p.1 ≠ k) : lookI es k = none := by
 unfold lookI
 rw [List.find?_eq_none.2 fun p hp => by simp [h p hp]]
 rfl
theorem mset_ints {k : List Int} {x : Int} : ∀ {es : List (List Int × Int)}, (∀ p ∈ es, p.1 ≠ k) → mset (kE es) (intV k) (n' x) = kE (es ++ [(k, x)])
 | [], _ => rfl
 | p :: es, h => by
  show (if veq (intV p.1) (intV k) = true then (intV p.1, n' x) :: kE es else (intV p.1, n' p.2) :: mset (kE es) (intV k) (n' x)) = _
  rw [veq_ints, decide_eq_false (h p (by simp)), mset_ints fun q hq => h q (by simp [hq])]
  rfl
theorem shOk_ints {N : Nat} {k : List Int} (hN : k.length = N) (hb : ∀ x ∈ k, -1 ≤ x ∧ x ≤ 1000) : shOk (.arr N) (intV k) = true := by
 show (((k.map fun x => Value.int .i64 x).toArray.toList.length == N) && (k.map fun x => Value.int .i64 x).toArray.toList.all isI64) = true
 rw [Bool.and_eq_true]
 refine ⟨by simp [hN], ?_⟩
 rw [List.all_eq_true]
 intro v hv
 obtain ⟨x, hx, rfl⟩ := List.mem_map.1 hv
 exact isI64_small (hb x hx)
theorem concs_ints : ∀ k : List Int, concs (k.map n') = some (k.map fun x => Value.int .i64 x)
 | [] => rfl
 | x :: k => by
  show (concs (k.map n')).map (Value.int .i64 x :: ·) = _
  rw [concs_ints k]
  rfl
theorem conc_ints (k : List Int) : conc (.agg (k.map n')) = some (intV k) := by
 show (concs (k.map n')).map (fun l => Value.agg l.toArray) = _
 rw [concs_ints]
 rfl
theorem aop_lookK {P : Program} {m : Bool} {g : Nat → Option Blk} {n : Nat} {ρ : Operand → Option AV} {o : Oper} {t kt et id N : Nat} {x k : Operand} {key : List Int} {es : List (List Int × Int)} {v : Int} (ho : o.op = .lookup t x k false) (hx : ρ x = some (.mp id)) (hk : ρ k = some (.agg (key.map n'))) (hg : g id = some (.map (.arr N) (kE es)))
  (ht : tmap P t = some (.arr N, kt, et)) (hz : tz P et = some (.int .i64 0)) (hN : key.length = N) (hb : ∀ x ∈ key, -1 ≤ x ∧ x ≤ 1000) (hf : lookI es key = some v) : aopF P m g n ρ o = some (.val (n' v) .same) := by
 rw [aopF_fun]
 obtain ⟨dst, op, ty, pos, after, guard⟩ := o
 simp only at ho
 subst ho
 simp only [aopT, hx, hk, ht, conc_ints, hg, hz, mlook_ints, hf]
 rw [if_pos ⟨by simp [KeyShape.same], shOk_ints hN hb⟩]
 rfl
theorem aop_lookK2 {P : Program} {m : Bool} {g : Nat → Option Blk} {n : Nat} {ρ : Operand → Option AV} {o : Oper} {t kt et id N : Nat} {x k : Operand} {key : List Int} {es : List (List Int × Int)} {v : Int} (ho : o.op = .lookup t x k true) (hx : ρ x = some (.mp id)) (hk : ρ k = some (.agg (key.map n'))) (hg : g id = some (.map (.arr N) (kE es)))
  (ht : tmap P t = some (.arr N, kt, et)) (hz : tz P et = some (.int .i64 0)) (hN : key.length = N) (hb : ∀ x ∈ key, -1 ≤ x ∧ x ≤ 1000) (hf : lookI es key = some v) : aopF P m g n ρ o = some (.val (.tup [n' v, .lit (.bool true)]) .same) := by
 rw [aopF_fun]
 obtain ⟨dst, op, ty, pos, after, guard⟩ := o
 simp only at ho
 subst ho
 simp only [aopT, hx, hk, ht, conc_ints, hg, hz, mlook_ints, hf]
 rw [if_pos ⟨by simp [KeyShape.same], shOk_ints hN hb⟩]
 rfl
theorem aop_lookN2 {P : Program} {m : Bool} {g : Nat → Option Blk} {n : Nat} {ρ : Operand → Option AV} {o : Oper} {t kt et id N : Nat} {x k : Operand} {key : List Int} {es : List (List Int × Int)} (ho : o.op = .lookup t x k true) (hx : ρ x = some (.mp id)) (hk : ρ k = some (.agg (key.map n'))) (hg : g id = some (.map (.arr N) (kE es)))
  (ht : tmap P t = some (.arr N, kt, et)) (hz : tz P et = some (.int .i64 0)) (hN : key.length = N) (hb : ∀ x ∈ key, -1 ≤ x ∧ x ≤ 1000) (hf : lookI es key = none) : aopF P m g n ρ o = some (.val (.tup [n' 0, .lit (.bool false)]) .same) := by
 rw [aopF_fun]
 obtain ⟨dst, op, ty, pos, after, guard⟩ := o
 simp only at ho
 subst ho
 simp only [aopT, hx, hk, ht, conc_ints, hg, hz, mlook_ints, hf]
 rw [if_pos ⟨by simp [KeyShape.same], shOk_ints hN hb⟩]
 rfl
theorem aop_setK {P : Program} {m : Bool} {g : Nat → Option Blk} {n : Nat} {ρ : Operand → Option AV} {o : Oper} {t kt et id N : Nat} {x k y : Operand} {key : List Int} {es : List (List Int × Int)} {v : Int} (ho : o.op = .mapUpdate t x k y) (hx : ρ x = some (.mp id)) (hk : ρ k = some (.agg (key.map n'))) (hy : ρ y = some (n' v)) (hg : g id = some (.map (.arr N) (kE es)))
  (ht : tmap P t = some (.arr N, kt, et)) (hN : key.length = N) (hb : ∀ x ∈ key, -1 ≤ x ∧ x ≤ 1000) (hf : ∀ p ∈ es, p.1 ≠ key) : aopF P m g n ρ o = some (.val (.lit undef) (.set id (.map (.arr N) (kE (es ++ [(key, v)]))))) := by
 rw [aopF_fun]
 obtain ⟨dst, op, ty, pos, after, guard⟩ := o
 simp only at ho
 subst ho
 simp only [aopT, hx, hk, hy, ht, conc_ints, hg, mset_ints hf]
 rw [if_pos ⟨by simp [KeyShape.same], shOk_ints hN hb⟩]
def cE (l : List Sta) (cl : Sta → Nat) : List (List Int × Int) := l.map fun p => ([(p.1 : Int), (p.2 : Int)], ((cl p : Nat) : Int))
theorem cE_snoc (l : List Sta) (p : Sta) (cl : Sta → Nat) : cE (l ++ [p]) cl = cE l cl ++ [([(p.1 : Int), (p.2 : Int)], ((cl p : Nat) : Int))] := by unfold cE; rw [List.map_append]; rfl
theorem cE_look {cl : Sta → Nat} {n s : Nat} : ∀ {l : List Sta}, (n, s) ∈ l → lookI (cE l cl) [(n : Int), (s : Int)] = some ((cl (n, s) : Nat) : Int)
 | p :: l, h => by
  unfold lookI cE
  rw [List.map_cons, List.find?_cons]
  by_cases e : p = (n, s)
  ·subst e
   simp
  ·have hne : ¬ ([(p.1 : Int), (p.2 : Int)] = [(n : Int), (s : Int)]) := fun h' => e (by
    simp only [List.cons.injEq, and_true] at h'
    exact Prod.ext (by omega) (by omega))
   simp only [hne, decide_false]
   exact cE_look ((List.mem_cons.1 h).resolve_left fun e' => e e'.symm)
theorem cE_new {cl : Sta → Nat} {n s : Nat} {l : List Sta} (h : (n, s) ∉ l) : ∀ p ∈ cE l cl, p.1 ≠ [(n : Int), (s : Int)] := fun p hp e => by
 obtain ⟨q, hq, rfl⟩ := List.mem_map.1 hp
 refine h ?_
 simp only [List.cons.injEq, and_true] at e
 have : q = (n, s) := Prod.ext (by omega) (by omega)
 rw [← this]; exact hq
def nE : List (List Int) → Nat → List (List Int × Int)
 | [], _ => []
 | x :: D, i => (x, (i : Int)) :: nE D (i + 1)
theorem nE_length : ∀ (D : List (List Int)) (i : Nat), (nE D i).length = D.length
 | [], _ => rfl
 | _ :: D, i => by show (nE D (i + 1)).length + 1 = _; rw [nE_length D]; rfl
theorem nE_snoc (x : List Int) : ∀ (D : List (List Int)) (i : Nat), nE (D ++ [x]) i = nE D i ++ [(x, ((i + D.length : Nat) : Int))]
 | [], _ => rfl
 | y :: D, i => by
  show (y, (i : Int)) :: nE (D ++ [x]) (i + 1) = (y, (i : Int)) :: (nE D (i + 1) ++ [(x, ((i + (D.length + 1) : Nat) : Int))])
  rw [nE_snoc x D, show i + 1 + D.length = i + (D.length + 1) by omega]
theorem nE_look {x : List Int} : ∀ {D : List (List Int)} {i : Nat}, x ∈ D → lookI (nE D i) x = some ((i + ixS x D : Nat) : Int)
 | y :: D, i, h => by
  unfold lookI nE
  rw [List.find?_cons]
  by_cases e : y = x
  ·subst e
   simp [ixS]
  ·simp only [e, decide_false]
   have := nE_look (D := D) (i := i + 1) ((List.mem_cons.1 h).resolve_left fun e' => e e'.symm)
   unfold lookI at this
   rw [this]
   show _ = some ((i + (if y = x then 0 else ixS x D + 1) : Nat) : Int)
   rw [if_neg e, show i + 1 + ixS x D = i + (ixS x D + 1) by omega]
theorem nE_keys {x : List Int} : ∀ {D : List (List Int)} {i : Nat}, x ∉ D → ∀ p ∈ nE D i, p.1 ≠ x
 | y :: D, i, h, p, hp, e => by
  rcases List.mem_cons.1 hp with h1 | h1
  ·subst h1
   exact h (by rw [← e]; simp)
  ·exact nE_keys (D := D) (i := i + 1) (fun h' => h (by simp [h'])) p h1 e
def preP (vs : List Vers) (n s : Nat) : List Sta := (List.range n).flatMap (rowS vs) ++ (List.range s).map fun s => (n, s)
theorem preP_succ (vs : List Vers) (n s : Nat) : preP vs n (s + 1) = preP vs n s ++ [(n, s)] := by
 unfold preP
 rw [List.range_succ, List.map_append, List.append_assoc]
 rfl
theorem preP_row (vs : List Vers) (n : Nat) : preP vs (n + 1) 0 = preP vs n (vAt vs n).length := by
 unfold preP
 rw [List.range_succ, List.flatMap_append, List.flatMap_cons, List.flatMap_nil, List.append_nil, List.range_zero, List.map_nil, List.append_nil]
 rfl
theorem preP_all (vs : List Vers) : preP vs vs.length 0 = allP vs := by
 unfold preP allP
 rw [List.range_zero, List.map_nil, List.append_nil]
theorem preP_mem {vs : List Vers} {n s : Nat} {p : Sta} : p ∈ preP vs n s ↔ (p.1 < n ∧ p.2 < (vAt vs p.1).length) ∨ (p.1 = n ∧ p.2 < s) := by
 unfold preP
 rw [List.mem_append, List.mem_flatMap, List.mem_map]
 constructor
 ·rintro (⟨m, hm, hp⟩ | ⟨q, hq, rfl⟩)
  ·obtain ⟨h1, h2⟩ := rowS_mem.1 hp
   subst h1
   exact .inl ⟨List.mem_range.1 hm, h2⟩
  ·exact .inr ⟨rfl, List.mem_range.1 hq⟩
 ·rintro (⟨h1, h2⟩ | ⟨h1, h2⟩)
  ·exact .inl ⟨p.1, List.mem_range.2 h1, rowS_mem.2 ⟨rfl, h2⟩⟩
  ·exact .inr ⟨p.2, List.mem_range.2 h2, by rw [← h1]⟩
theorem preP_new {vs : List Vers} {n s : Nat} : (n, s) ∉ preP vs n s := fun h => by
 rcases preP_mem.1 h with ⟨h1, _⟩ | ⟨_, h1⟩ <;> simp at h1
theorem flat_more {vs : List Vers} : ∀ {n m : Nat}, n ≤ m → ∃ R, (List.range m).flatMap (rowS vs) = (List.range n).flatMap (rowS vs) ++ R := fun {n m} h => by
 obtain ⟨d, rfl⟩ := Nat.exists_eq_add_of_le h
 rw [List.range_add, List.flatMap_append]
 exact ⟨_, rfl⟩
theorem preP_more {vs : List Vers} {n s : Nat} (hn : n < vs.length) (hs : s ≤ (vAt vs n).length) : ∃ R, allP vs = preP vs n s ++ R := by
 obtain ⟨R, h⟩ := flat_more (vs := vs) (n := n + 1) (m := vs.length) (by omega)
 obtain ⟨d, hd⟩ := Nat.exists_eq_add_of_le hs
 refine ⟨(List.range d).map (fun x => (n, s + x)) ++ R, ?_⟩
 show (List.range vs.length).flatMap (rowS vs) = _
 rw [h, List.range_succ, List.flatMap_append, List.flatMap_cons, List.flatMap_nil, List.append_nil]
 unfold preP
 have : rowS vs n = (List.range s).map (fun x => (n, x)) ++ (List.range d).map (fun x => (n, s + x)) := by
  unfold rowS
  rw [hd, List.range_add, List.map_append, List.map_map]
  rfl
 rw [this]
 simp [List.append_assoc]
end Go.Vm
