/-
  Contracts of functions of package cue about positions of several versions and a search by breadth over them, for books as told at each, in every heap; and plain mathematics on such searches and on machines that differ. Conditions: at each theorem.
-/
import Derived.Test.YtdhdaadoehbopaaGreatDoorCb
import Derived.Test.YtdhdaadoehbopaaGreatDoorVc
import Derived.Test.YtdhdaadoehbopaaGreatDoorCo
import Derived.Test.YtdhdaadoehbopaaGreatDoorCq

namespace Go.Vm
open Go.Proofs
def maskI (a b c d e f : Bool) : Int := (if a then 1 else 0) + (if b then 2 else 0) + (if c then 4 else 0) + (if d then 8 else 0) + (if e then 16 else 0) + (if f then 32 else 0)
def nxI (vs : List Vers) (c n : Nat) (p : Int) : Int := if 0 ≤ p then (mv (vs.getD n []) p.toNat c).1 else p
def tuI (vs : List Vers) (c n : Nat) (p : Int) : Int := if 0 ≤ p then (mv (vs.getD n []) p.toNat c).2 else 0
def bitB (vs : List Vers) (c : Nat) (m : Bool) (a b : Nat) (p q : Int) : Bool := m || (decide (0 ≤ p) && (decide (0 ≤ q) && decide (tuI vs c a p ≠ tuI vs c b q)))
def PosOk (vs : List Vers) (n : Nat) (p : Int) : Prop := p = -1 ∨ 0 ≤ p ∧ n < vs.length ∧ p < (vs.getD n []).length
theorem nx_ok {vs : List Vers} {k c n : Nat} {p : Int} (hv : ∀ v ∈ vs, VersOk v k) (hc : c < k) (h : PosOk vs n p) : PosOk vs n (nxI vs c n p) := by
 unfold nxI
 rcases h with rfl | ⟨h1, h2, h3⟩
 ·exact .inl rfl
 ·rw [if_pos h1]
  have e : vs.getD n [] = vs[n] := by simp [List.getD, List.getElem?_eq_getElem h2]
  rw [e] at h3 ⊢
  obtain ⟨x, _, hx2, hx3, hx4⟩ := mv_at (v := vs[n]) (s := p.toNat) (c := c) (hv _ (List.getElem_mem h2)) (by omega) hc
  exact .inr ⟨by omega, h2, by rw [e]; omega⟩
def posC (p0 p1 p2 p3 : Int) (m0 m1 m2 m3 m4 m5 : Bool) : List AV := [n' p0, n' p1, n' p2, n' p3, n' (maskI m0 m1 m2 m3 m4 m5)]
theorem under_posC (n : Nat) (p0 p1 p2 p3 : Int) (m0 m1 m2 m3 m4 m5 : Bool) : AV.unders n (posC p0 p1 p2 p3 m0 m1 m2 m3 m4 m5) := ⟨trivial, trivial, trivial, trivial, trivial, trivial⟩
def nxR (vs : List Vers) (c r n : Nat) (p : Int) : Int := if n < r then nxI vs c n p else p
def tuR (vs : List Vers) (c r n : Nat) (p : Int) : Int := if n < r then tuI vs c n p else 0
theorem nxR_end {vs : List Vers} {c n : Nat} {p : Int} (h : PosOk vs n p) : nxR vs c vs.length n p = nxI vs c n p := by
 unfold nxR nxI
 rcases h with rfl | ⟨h1, h2, h3⟩
 ·simp
 ·rw [if_pos h2]
theorem tuR_end {vs : List Vers} {c n : Nat} {p : Int} (h : PosOk vs n p) : tuR vs c vs.length n p = tuI vs c n p := by
 unfold tuR tuI
 rcases h with rfl | ⟨h1, h2, h3⟩
 ·simp
 ·rw [if_pos h2]
def kk (a : Nat) : Nat := [0, 0, 1, 3, 6].getD a 0
def mskR (vs : List Vers) (c : Nat) (p0 p1 p2 p3 : Int) (m0 m1 m2 m3 m4 m5 : Bool) (k : Nat) : Int :=
 maskI (if 0 < k then bitB vs c m0 1 0 p1 p0 else m0) (if 1 < k then bitB vs c m1 2 0 p2 p0 else m1) (if 2 < k then bitB vs c m2 2 1 p2 p1 else m2) (if 3 < k then bitB vs c m3 3 0 p3 p0 else m3) (if 4 < k then bitB vs c m4 3 1 p3 p1 else m4) (if 5 < k then bitB vs c m5 3 2 p3 p2 else m5)
noncomputable def aftB (st : LoopState) : Blk := lpB Tryz.f107 st [(6, .ptr 2 0), (7, .ptr 3 0), (8, .ptr 4 0), (47, .fn (.func 175) [] [.ptr 5 0])] 6
theorem under_aftB (st : LoopState) : (aftB st).under 8 := under_lpB ⟨ltb rfl, ltb rfl, ltb rfl, ⟨trivial, ltb rfl, trivial⟩, trivial⟩ (ltb rfl)
theorem mask_or0 : ∀ a b c d e f : Bool, IntKind.i64.wrap (BitVec.ofInt IntKind.i64.bits (maskI a b c d e f) ||| BitVec.ofInt IntKind.i64.bits 1).toNat = maskI true b c d e f := by
 intro a b c d e f; cases a <;> cases b <;> cases c <;> cases d <;> cases e <;> cases f <;> rfl
theorem mask_or1 : ∀ a b c d e f : Bool, IntKind.i64.wrap (BitVec.ofInt IntKind.i64.bits (maskI a b c d e f) ||| BitVec.ofInt IntKind.i64.bits 2).toNat = maskI a true c d e f := by
 intro a b c d e f; cases a <;> cases b <;> cases c <;> cases d <;> cases e <;> cases f <;> rfl
theorem mask_or2 : ∀ a b c d e f : Bool, IntKind.i64.wrap (BitVec.ofInt IntKind.i64.bits (maskI a b c d e f) ||| BitVec.ofInt IntKind.i64.bits 4).toNat = maskI a b true d e f := by
 intro a b c d e f; cases a <;> cases b <;> cases c <;> cases d <;> cases e <;> cases f <;> rfl
theorem mask_or3 : ∀ a b c d e f : Bool, IntKind.i64.wrap (BitVec.ofInt IntKind.i64.bits (maskI a b c d e f) ||| BitVec.ofInt IntKind.i64.bits 8).toNat = maskI a b c true e f := by
 intro a b c d e f; cases a <;> cases b <;> cases c <;> cases d <;> cases e <;> cases f <;> rfl
theorem mask_or4 : ∀ a b c d e f : Bool, IntKind.i64.wrap (BitVec.ofInt IntKind.i64.bits (maskI a b c d e f) ||| BitVec.ofInt IntKind.i64.bits 16).toNat = maskI a b c d true f := by
 intro a b c d e f; cases a <;> cases b <;> cases c <;> cases d <;> cases e <;> cases f <;> rfl
theorem mask_or5 : ∀ a b c d e f : Bool, IntKind.i64.wrap (BitVec.ofInt IntKind.i64.bits (maskI a b c d e f) ||| BitVec.ofInt IntKind.i64.bits 32).toNat = maskI a b c d e true := by
 intro a b c d e f; cases a <;> cases b <;> cases c <;> cases d <;> cases e <;> cases f <;> rfl
theorem msk_box {a b c d x y : Int} (h : x = y) : some (Blk.box [n' a, n' b, n' c, n' d, n' x] 130) = some (Blk.box [n' a, n' b, n' c, n' d, n' y] 130) := by rw [h]
noncomputable def aftL (b : Book) (c : Nat) (p0 p1 p2 p3 : Int) (m0 m1 m2 m3 m4 m5 : Bool) (st : LoopState) (k : Nat) : List (Nat × Blk) :=
 [(0, .box (posC p0 p1 p2 p3 m0 m1 m2 m3 m4 m5) 130), (1, bBox b), (2, .box [n' 0, n' 0, n' 0, n' 0, n' 0] 130), (3, .box [n' (nxI b.vs c 0 p0), n' (nxI b.vs c 1 p1), n' (nxI b.vs c 2 p2), n' (nxI b.vs c 3 p3), n' (mskR b.vs c p0 p1 p2 p3 m0 m1 m2 m3 m4 m5 k)] 130), (4, .box [n' (tuI b.vs c 0 p0), n' (tuI b.vs c 1 p1), n' (tuI b.vs c 2 p2), n' (tuI b.vs c 3 p3)] 193),
  (5, .box (posC p0 p1 p2 p3 m0 m1 m2 m3 m4 m5) 130), (6, .defd), (7, aftB st)]
set_option maxHeartbeats 8000000 in
set_option maxRecDepth 100000 in
theorem c_posAfter {b : Book} {k c : Nat} (hv : ∀ v ∈ b.vs, VersOk v k) (hc : c < k) (hn : b.vs.length ≤ 4) {p0 p1 p2 p3 : Int} (h0 : PosOk b.vs 0 p0) (h1 : PosOk b.vs 1 p1) (h2 : PosOk b.vs 2 p2) (h3 : PosOk b.vs 3 p3) (m0 m1 m2 m3 m4 m5 : Bool) (H : List Blk) :
  ACall Tryz.prog 107 [.agg (posC p0 p1 p2 p3 m0 m1 m2 m3 m4 m5), eBook b, n' c] H (.ret (.agg (posC (nxI b.vs c 0 p0) (nxI b.vs c 1 p1) (nxI b.vs c 2 p2) (nxI b.vs c 3 p3) (bitB b.vs c m0 1 0 p1 p0) (bitB b.vs c m1 2 0 p2 p0) (bitB b.vs c m2 2 1 p2 p1) (bitB b.vs c m3 3 0 p3 p0) (bitB b.vs c m4 3 1 p3 p1) (bitB b.vs c m5 3 2 p3 p2)))) H := by
 refine fn_ruleM (m := false) (fn := Tryz.f107) (c := (Tryz.f107.body).getD .skip) mixed (by kernel_rfl) (by kernel_rfl) (of_decide_eq_true (by kernel_rfl)) ?_ ?_ ?_ H
 ·exact ⟨under_posC 0 _ _ _ _ _ _ _ _ _ _, under_eBook 0 _, trivial, trivial⟩
 ·exact under_posC 0 _ _ _ _ _ _ _ _ _ _
 ·refine LoopG.at (n0 := 5) rfl (loop_up mixed (m := false) (fun r => [(2, n' c), (3, .ptr 0 0), (6, .ptr 2 0), (7, .ptr 3 0), (8, .ptr 4 0), (17, eVersions b.vs), (18, n' (b.vs.length : Nat)), (19, n' r)]) (fun r => [(0, .box (posC p0 p1 p2 p3 m0 m1 m2 m3 m4 m5) 130), (1, bBox b), (2, .box [n' 0, n' 0, n' 0, n' 0, n' 0] 130), (3, .box [n' (nxR b.vs c r 0 p0), n' (nxR b.vs c r 1 p1), n' (nxR b.vs c r 2 p2), n' (nxR b.vs c r 3 p3), n' (maskI m0 m1 m2 m3 m4 m5)] 130), (4, .box [n' (tuR b.vs c r 0 p0), n' (tuR b.vs c r 1 p1), n' (tuR b.vs c r 2 p2), n' (tuR b.vs c r 3 p3)] 193)]) (fun _ => True) b.vs.length 3 (leb rfl) trivial ?_ ?_ ?_)
  ·exact ⟨wp rfl trivial, wp rfl (ltb rfl), wp rfl (ltb rfl), wp rfl (ltb rfl), wp rfl (ltb rfl), ⟨_, rfl, Weak.refl _ _, under_eVersions _ _⟩, wp rfl trivial, wp rfl trivial, trivial⟩
  ·exact ⟨bk rfl rfl, bk rfl rfl, bk rfl rfl, bk rfl rfl, bk rfl rfl, trivial⟩
  ·intro r hr _
   refine If.mk (fun hlt => ?_) (fun hlt => ?_)
   ·refine ifY ?_
    have hr4 : r = 0 ∨ r = 1 ∨ r = 2 ∨ r = 3 := by omega
    rcases hr4 with rfl | rfl | rfl | rfl
    ·obtain ⟨v, hx⟩ : ∃ v, b.vs[0]? = some v := ⟨_, List.getElem?_eq_getElem (by omega)⟩
     have hvo := hv v (List.mem_of_getElem? hx)
     have hgd : b.vs.getD 0 [] = v := by simp [List.getD, hx]
     refine Ex.mk _ (jx_versions (r := 0) rfl hx) ?_
     refine Ex.mk _ rfl ?_
     refine If.mk (fun hp => ?_) (fun hp => ?_)
     ·refine ifY ?_
      refine Side.mk (fits64 (by omega)) ?_
      refine ⟨leb rfl, rfl, by omega, trivial, ⟨wp rfl trivial, wp rfl (ltb rfl), wp rfl (ltb rfl), wp rfl (ltb rfl), wp rfl (ltb rfl), ⟨_, rfl, Weak.refl _ _, under_eVersions _ _⟩, wp rfl trivial, wp rfl trivial, trivial⟩, ⟨bk rfl rfl, bk rfl rfl, bk rfl rfl, ⟨?_, ltb rfl⟩, ⟨?_, ltb rfl⟩, trivial⟩, trivial⟩
      ·have e : nxI b.vs c 0 p0 = p0 := if_neg (by omega)
       show some (Blk.box [n' (nxR b.vs c 0 0 p0), n' (nxR b.vs c 0 1 p1), n' (nxR b.vs c 0 2 p2), n' (nxR b.vs c 0 3 p3), n' (maskI m0 m1 m2 m3 m4 m5)] 130) = _
       simp [nxR, e]
      ·have e : tuI b.vs c 0 p0 = 0 := if_neg (by omega)
       show some (Blk.box [n' (tuR b.vs c 0 0 p0), n' (tuR b.vs c 0 1 p1), n' (tuR b.vs c 0 2 p2), n' (tuR b.vs c 0 3 p3)] 193) = _
       simp [tuR, e]
     ·refine ifN ?_
      obtain ⟨hq1, hq2, hq3⟩ := h0.resolve_left (by omega)
      rw [hgd] at hq3
      obtain ⟨s, hs⟩ : ∃ s : Nat, p0 = s := ⟨p0.toNat, by omega⟩
      have hs' : p0.toNat = s := by omega
      obtain ⟨x, hx1, hx2, hx3, hx4⟩ := mv_at (s := s) (c := c) hvo (by omega) hc
      have hh := fun H => c_hears hx1 hx2 H
      rw [← hs] at hh
      refine PickW.mk [16] ?_
      refine CallG.pure _ (hh) ?_
      refine Side.mk (fits64 (by omega)) ?_
      refine ⟨leb rfl, rfl, by omega, trivial, ⟨wp rfl trivial, wp rfl (ltb rfl), wp rfl (ltb rfl), wp rfl (ltb rfl), wp rfl (ltb rfl), ⟨_, rfl, Weak.refl _ _, under_eVersions _ _⟩, wp rfl trivial, wp rfl trivial, trivial⟩, ⟨bk rfl rfl, bk rfl rfl, bk rfl rfl, ⟨?_, ltb rfl⟩, ⟨?_, ltb rfl⟩, trivial⟩, ⟨_, rfl, trivial, trivial, trivial, trivial, trivial, trivial⟩, ⟨_, rfl, trivial, trivial, trivial, trivial, trivial⟩, trivial⟩
      ·have e : nxI b.vs c 0 p0 = (mv v s c).1 := by unfold nxI; rw [if_pos hq1, hgd, hs']
       show some (Blk.box [n' (mv v s c).1, n' (nxR b.vs c 0 1 p1), n' (nxR b.vs c 0 2 p2), n' (nxR b.vs c 0 3 p3), n' (maskI m0 m1 m2 m3 m4 m5)] 130) = _
       simp [nxR, e]
      ·have e : tuI b.vs c 0 p0 = (mv v s c).2 := by unfold tuI; rw [if_pos hq1, hgd, hs']
       show some (Blk.box [n' (mv v s c).2, n' (tuR b.vs c 0 1 p1), n' (tuR b.vs c 0 2 p2), n' (tuR b.vs c 0 3 p3)] 193) = _
       simp [tuR, e]
    ·obtain ⟨v, hx⟩ : ∃ v, b.vs[1]? = some v := ⟨_, List.getElem?_eq_getElem (by omega)⟩
     have hvo := hv v (List.mem_of_getElem? hx)
     have hgd : b.vs.getD 1 [] = v := by simp [List.getD, hx]
     refine Ex.mk _ (jx_versions (r := 1) rfl hx) ?_
     refine Ex.mk _ rfl ?_
     refine If.mk (fun hp => ?_) (fun hp => ?_)
     ·refine ifY ?_
      refine Side.mk (fits64 (by omega)) ?_
      refine ⟨leb rfl, rfl, by omega, trivial, ⟨wp rfl trivial, wp rfl (ltb rfl), wp rfl (ltb rfl), wp rfl (ltb rfl), wp rfl (ltb rfl), ⟨_, rfl, Weak.refl _ _, under_eVersions _ _⟩, wp rfl trivial, wp rfl trivial, trivial⟩, ⟨bk rfl rfl, bk rfl rfl, bk rfl rfl, ⟨?_, ltb rfl⟩, ⟨?_, ltb rfl⟩, trivial⟩, trivial⟩
      ·have e : nxI b.vs c 1 p1 = p1 := if_neg (by omega)
       show some (Blk.box [n' (nxR b.vs c 1 0 p0), n' (nxR b.vs c 1 1 p1), n' (nxR b.vs c 1 2 p2), n' (nxR b.vs c 1 3 p3), n' (maskI m0 m1 m2 m3 m4 m5)] 130) = _
       simp [nxR, e]
      ·have e : tuI b.vs c 1 p1 = 0 := if_neg (by omega)
       show some (Blk.box [n' (tuR b.vs c 1 0 p0), n' (tuR b.vs c 1 1 p1), n' (tuR b.vs c 1 2 p2), n' (tuR b.vs c 1 3 p3)] 193) = _
       simp [tuR, e]
     ·refine ifN ?_
      obtain ⟨hq1, hq2, hq3⟩ := h1.resolve_left (by omega)
      rw [hgd] at hq3
      obtain ⟨s, hs⟩ : ∃ s : Nat, p1 = s := ⟨p1.toNat, by omega⟩
      have hs' : p1.toNat = s := by omega
      obtain ⟨x, hx1, hx2, hx3, hx4⟩ := mv_at (s := s) (c := c) hvo (by omega) hc
      have hh := fun H => c_hears hx1 hx2 H
      rw [← hs] at hh
      refine PickW.mk [16] ?_
      refine CallG.pure _ (hh) ?_
      refine Side.mk (fits64 (by omega)) ?_
      refine ⟨leb rfl, rfl, by omega, trivial, ⟨wp rfl trivial, wp rfl (ltb rfl), wp rfl (ltb rfl), wp rfl (ltb rfl), wp rfl (ltb rfl), ⟨_, rfl, Weak.refl _ _, under_eVersions _ _⟩, wp rfl trivial, wp rfl trivial, trivial⟩, ⟨bk rfl rfl, bk rfl rfl, bk rfl rfl, ⟨?_, ltb rfl⟩, ⟨?_, ltb rfl⟩, trivial⟩, ⟨_, rfl, trivial, trivial, trivial, trivial, trivial, trivial⟩, ⟨_, rfl, trivial, trivial, trivial, trivial, trivial⟩, trivial⟩
      ·have e : nxI b.vs c 1 p1 = (mv v s c).1 := by unfold nxI; rw [if_pos hq1, hgd, hs']
       show some (Blk.box [n' (nxR b.vs c 1 0 p0), n' (mv v s c).1, n' (nxR b.vs c 1 2 p2), n' (nxR b.vs c 1 3 p3), n' (maskI m0 m1 m2 m3 m4 m5)] 130) = _
       simp [nxR, e]
      ·have e : tuI b.vs c 1 p1 = (mv v s c).2 := by unfold tuI; rw [if_pos hq1, hgd, hs']
       show some (Blk.box [n' (tuR b.vs c 1 0 p0), n' (mv v s c).2, n' (tuR b.vs c 1 2 p2), n' (tuR b.vs c 1 3 p3)] 193) = _
       simp [tuR, e]
    ·obtain ⟨v, hx⟩ : ∃ v, b.vs[2]? = some v := ⟨_, List.getElem?_eq_getElem (by omega)⟩
     have hvo := hv v (List.mem_of_getElem? hx)
     have hgd : b.vs.getD 2 [] = v := by simp [List.getD, hx]
     refine Ex.mk _ (jx_versions (r := 2) rfl hx) ?_
     refine Ex.mk _ rfl ?_
     refine If.mk (fun hp => ?_) (fun hp => ?_)
     ·refine ifY ?_
      refine Side.mk (fits64 (by omega)) ?_
      refine ⟨leb rfl, rfl, by omega, trivial, ⟨wp rfl trivial, wp rfl (ltb rfl), wp rfl (ltb rfl), wp rfl (ltb rfl), wp rfl (ltb rfl), ⟨_, rfl, Weak.refl _ _, under_eVersions _ _⟩, wp rfl trivial, wp rfl trivial, trivial⟩, ⟨bk rfl rfl, bk rfl rfl, bk rfl rfl, ⟨?_, ltb rfl⟩, ⟨?_, ltb rfl⟩, trivial⟩, trivial⟩
      ·have e : nxI b.vs c 2 p2 = p2 := if_neg (by omega)
       show some (Blk.box [n' (nxR b.vs c 2 0 p0), n' (nxR b.vs c 2 1 p1), n' (nxR b.vs c 2 2 p2), n' (nxR b.vs c 2 3 p3), n' (maskI m0 m1 m2 m3 m4 m5)] 130) = _
       simp [nxR, e]
      ·have e : tuI b.vs c 2 p2 = 0 := if_neg (by omega)
       show some (Blk.box [n' (tuR b.vs c 2 0 p0), n' (tuR b.vs c 2 1 p1), n' (tuR b.vs c 2 2 p2), n' (tuR b.vs c 2 3 p3)] 193) = _
       simp [tuR, e]
     ·refine ifN ?_
      obtain ⟨hq1, hq2, hq3⟩ := h2.resolve_left (by omega)
      rw [hgd] at hq3
      obtain ⟨s, hs⟩ : ∃ s : Nat, p2 = s := ⟨p2.toNat, by omega⟩
      have hs' : p2.toNat = s := by omega
      obtain ⟨x, hx1, hx2, hx3, hx4⟩ := mv_at (s := s) (c := c) hvo (by omega) hc
      have hh := fun H => c_hears hx1 hx2 H
      rw [← hs] at hh
      refine PickW.mk [16] ?_
      refine CallG.pure _ (hh) ?_
      refine Side.mk (fits64 (by omega)) ?_
      refine ⟨leb rfl, rfl, by omega, trivial, ⟨wp rfl trivial, wp rfl (ltb rfl), wp rfl (ltb rfl), wp rfl (ltb rfl), wp rfl (ltb rfl), ⟨_, rfl, Weak.refl _ _, under_eVersions _ _⟩, wp rfl trivial, wp rfl trivial, trivial⟩, ⟨bk rfl rfl, bk rfl rfl, bk rfl rfl, ⟨?_, ltb rfl⟩, ⟨?_, ltb rfl⟩, trivial⟩, ⟨_, rfl, trivial, trivial, trivial, trivial, trivial, trivial⟩, ⟨_, rfl, trivial, trivial, trivial, trivial, trivial⟩, trivial⟩
      ·have e : nxI b.vs c 2 p2 = (mv v s c).1 := by unfold nxI; rw [if_pos hq1, hgd, hs']
       show some (Blk.box [n' (nxR b.vs c 2 0 p0), n' (nxR b.vs c 2 1 p1), n' (mv v s c).1, n' (nxR b.vs c 2 3 p3), n' (maskI m0 m1 m2 m3 m4 m5)] 130) = _
       simp [nxR, e]
      ·have e : tuI b.vs c 2 p2 = (mv v s c).2 := by unfold tuI; rw [if_pos hq1, hgd, hs']
       show some (Blk.box [n' (tuR b.vs c 2 0 p0), n' (tuR b.vs c 2 1 p1), n' (mv v s c).2, n' (tuR b.vs c 2 3 p3)] 193) = _
       simp [tuR, e]
    ·obtain ⟨v, hx⟩ : ∃ v, b.vs[3]? = some v := ⟨_, List.getElem?_eq_getElem (by omega)⟩
     have hvo := hv v (List.mem_of_getElem? hx)
     have hgd : b.vs.getD 3 [] = v := by simp [List.getD, hx]
     refine Ex.mk _ (jx_versions (r := 3) rfl hx) ?_
     refine Ex.mk _ rfl ?_
     refine If.mk (fun hp => ?_) (fun hp => ?_)
     ·refine ifY ?_
      refine Side.mk (fits64 (by omega)) ?_
      refine ⟨leb rfl, rfl, by omega, trivial, ⟨wp rfl trivial, wp rfl (ltb rfl), wp rfl (ltb rfl), wp rfl (ltb rfl), wp rfl (ltb rfl), ⟨_, rfl, Weak.refl _ _, under_eVersions _ _⟩, wp rfl trivial, wp rfl trivial, trivial⟩, ⟨bk rfl rfl, bk rfl rfl, bk rfl rfl, ⟨?_, ltb rfl⟩, ⟨?_, ltb rfl⟩, trivial⟩, trivial⟩
      ·have e : nxI b.vs c 3 p3 = p3 := if_neg (by omega)
       show some (Blk.box [n' (nxR b.vs c 3 0 p0), n' (nxR b.vs c 3 1 p1), n' (nxR b.vs c 3 2 p2), n' (nxR b.vs c 3 3 p3), n' (maskI m0 m1 m2 m3 m4 m5)] 130) = _
       simp [nxR, e]
      ·have e : tuI b.vs c 3 p3 = 0 := if_neg (by omega)
       show some (Blk.box [n' (tuR b.vs c 3 0 p0), n' (tuR b.vs c 3 1 p1), n' (tuR b.vs c 3 2 p2), n' (tuR b.vs c 3 3 p3)] 193) = _
       simp [tuR, e]
     ·refine ifN ?_
      obtain ⟨hq1, hq2, hq3⟩ := h3.resolve_left (by omega)
      rw [hgd] at hq3
      obtain ⟨s, hs⟩ : ∃ s : Nat, p3 = s := ⟨p3.toNat, by omega⟩
      have hs' : p3.toNat = s := by omega
      obtain ⟨x, hx1, hx2, hx3, hx4⟩ := mv_at (s := s) (c := c) hvo (by omega) hc
      have hh := fun H => c_hears hx1 hx2 H
      rw [← hs] at hh
      refine PickW.mk [16] ?_
      refine CallG.pure _ (hh) ?_
      refine Side.mk (fits64 (by omega)) ?_
      refine ⟨leb rfl, rfl, by omega, trivial, ⟨wp rfl trivial, wp rfl (ltb rfl), wp rfl (ltb rfl), wp rfl (ltb rfl), wp rfl (ltb rfl), ⟨_, rfl, Weak.refl _ _, under_eVersions _ _⟩, wp rfl trivial, wp rfl trivial, trivial⟩, ⟨bk rfl rfl, bk rfl rfl, bk rfl rfl, ⟨?_, ltb rfl⟩, ⟨?_, ltb rfl⟩, trivial⟩, ⟨_, rfl, trivial, trivial, trivial, trivial, trivial, trivial⟩, ⟨_, rfl, trivial, trivial, trivial, trivial, trivial⟩, trivial⟩
      ·have e : nxI b.vs c 3 p3 = (mv v s c).1 := by unfold nxI; rw [if_pos hq1, hgd, hs']
       show some (Blk.box [n' (nxR b.vs c 3 0 p0), n' (nxR b.vs c 3 1 p1), n' (nxR b.vs c 3 2 p2), n' (mv v s c).1, n' (maskI m0 m1 m2 m3 m4 m5)] 130) = _
       simp [nxR, e]
      ·have e : tuI b.vs c 3 p3 = (mv v s c).2 := by unfold tuI; rw [if_pos hq1, hgd, hs']
       show some (Blk.box [n' (tuR b.vs c 3 0 p0), n' (tuR b.vs c 3 1 p1), n' (tuR b.vs c 3 2 p2), n' (mv v s c).2] 193) = _
       simp [tuR, e]
   ·refine ifN ?_
    refine ⟨leb rfl, ?_⟩
    have er : r = b.vs.length := by omega
    subst er
    refine CallG.inlineP (m := false) (fn := Tryz.f125) (c := (Tryz.f125.body).getD .skip) mixed (by kernel_rfl) (by kernel_rfl) (of_decide_eq_true (by kernel_rfl)) ?_
    refine .inl ⟨.inl rfl, _, rfl, rfl, ?_⟩
    refine RangeG.fresh (n0 := 6) [(6, .ptr 2 0), (7, .ptr 3 0), (8, .ptr 4 0), (47, .fn (.func 175) [] [.ptr 5 0])] ((aftL b c p0 p1 p2 p3 m0 m1 m2 m3 m4 m5 .ready 0).take 6) rfl ?_ ?_ ?_
    ·exact ⟨⟨_, rfl, Weak.refl _ _⟩, ⟨_, rfl, Weak.refl _ _⟩, ⟨_, rfl, Weak.refl _ _⟩, ⟨_, rfl, Weak.refl _ _⟩, trivial⟩
    ·refine ⟨bk rfl rfl, bk rfl rfl, bk rfl rfl, ⟨?_, ltb rfl⟩, ⟨?_, ltb rfl⟩, bk rfl rfl, trivial⟩
     ·show some (Blk.box [n' (nxR b.vs c b.vs.length 0 p0), n' (nxR b.vs c b.vs.length 1 p1), n' (nxR b.vs c b.vs.length 2 p2), n' (nxR b.vs c b.vs.length 3 p3), n' (maskI m0 m1 m2 m3 m4 m5)] 130) = _
      rw [nxR_end h0, nxR_end h1, nxR_end h2, nxR_end h3]
      rfl
     ·show some (Blk.box [n' (tuR b.vs c b.vs.length 0 p0), n' (tuR b.vs c b.vs.length 1 p1), n' (tuR b.vs c b.vs.length 2 p2), n' (tuR b.vs c b.vs.length 3 p3)] 193) = _
      rw [tuR_end h0, tuR_end h1, tuR_end h2, tuR_end h3]
    refine RangeG.after ?_
    refine RangeG.outer (f := 175) (first := []) (captured := [.ptr 5 0]) rfl rfl rfl ?_
    refine CallG.inlineP (m := false) (fn := Tryz.f175) (c := (Tryz.f175.body).getD .skip) mixed (by kernel_rfl) (by kernel_rfl) (of_decide_eq_true (by kernel_rfl)) ?_
    refine loop_up mixed (m := false) (fun a => [(0, .yld 7), (1, .ptr 5 0), (3, n' (kk a : Nat)), (6, n' a)]) (fun a => aftL b c p0 p1 p2 p3 m0 m1 m2 m3 m4 m5 .ready (kk a)) (fun _ => True) 4 3 (leb rfl) trivial ?_ ?_ ?_
    ·exact ⟨wp rfl (ltb rfl), wp rfl (ltb rfl), wp rfl trivial, wp rfl trivial, trivial⟩
    ·exact ⟨bk rfl rfl, bk rfl rfl, bk rfl rfl, bk rfl rfl, bk rfl rfl, bk rfl rfl, bk rfl rfl, bk rfl rfl, trivial⟩
    ·intro a ha _
     have ha4 : a = 0 ∨ a = 1 ∨ a = 2 ∨ a = 3 ∨ a = 4 := by omega
     rcases ha4 with rfl | rfl | rfl | rfl | rfl
     ·refine If.mk (fun _ => ?_) (fun h => absurd (by decide) h)
      refine ifY ?_
      refine LoopG.at (n0 := 8) rfl (loop_up mixed (m := false) (fun r => [(0, .yld 7), (1, .ptr 5 0), (3, n' (kk 0 + r : Nat)), (4, n' (0 : Nat)), (6, n' (0 : Nat)), (9, n' (0 : Nat)), (10, n' r)]) (fun r => aftL b c p0 p1 p2 p3 m0 m1 m2 m3 m4 m5 .ready (kk 0 + r)) (fun _ => True) 0 3 (leb rfl) trivial ?_ ?_ ?_)
      ·exact ⟨wp rfl (ltb rfl), wp rfl (ltb rfl), wp rfl trivial, wp rfl trivial, wp rfl trivial, wp rfl trivial, wp rfl trivial, trivial⟩
      ·exact ⟨bk rfl rfl, bk rfl rfl, bk rfl rfl, bk rfl rfl, bk rfl rfl, bk rfl rfl, bk rfl rfl, bk rfl rfl, trivial⟩
      ·intro r hr _
       obtain rfl : r = 0 := by omega
       refine If.mk (fun h => absurd h (by decide)) (fun _ => ?_)
       refine ifN ?_
       refine ⟨leb rfl, ?_⟩
       refine Side.mk (fits64 (by omega)) ?_
       refine ⟨leb rfl, rfl, by omega, trivial, ⟨wp rfl (ltb rfl), wp rfl (ltb rfl), wp rfl trivial, wp rfl trivial, trivial⟩, ?_, ?_⟩
       ·exact ⟨bk rfl rfl, bk rfl rfl, bk rfl rfl, bk rfl rfl, bk rfl rfl, bk rfl rfl, bk rfl rfl, bk rfl rfl, trivial⟩
       ·exact ⟨⟨_, rfl, trivial, trivial, trivial, trivial, trivial, trivial⟩, ⟨_, rfl, trivial, trivial, trivial, trivial, trivial⟩, ⟨_, rfl, under_posC _ _ _ _ _ _ _ _ _ _ _⟩, ⟨_, rfl, trivial⟩, ⟨aftB .ready, rfl, under_aftB _⟩, trivial⟩
     ·refine If.mk (fun _ => ?_) (fun h => absurd (by decide) h)
      refine ifY ?_
      refine LoopG.at (n0 := 8) rfl (loop_up mixed (m := false) (fun r => [(0, .yld 7), (1, .ptr 5 0), (3, n' (kk 1 + r : Nat)), (4, n' (1 : Nat)), (6, n' (1 : Nat)), (9, n' (1 : Nat)), (10, n' r)]) (fun r => aftL b c p0 p1 p2 p3 m0 m1 m2 m3 m4 m5 .ready (kk 1 + r)) (fun _ => True) 1 3 (leb rfl) trivial ?_ ?_ ?_)
      ·exact ⟨wp rfl (ltb rfl), wp rfl (ltb rfl), wp rfl trivial, wp rfl trivial, wp rfl trivial, wp rfl trivial, wp rfl trivial, trivial⟩
      ·exact ⟨bk rfl rfl, bk rfl rfl, bk rfl rfl, bk rfl rfl, bk rfl rfl, bk rfl rfl, bk rfl rfl, bk rfl rfl, trivial⟩
      ·intro r hr _
       have hr4 : r = 0 ∨ r = 1 := by omega
       rcases hr4 with rfl | rfl
       case' inl =>
        refine If.mk (fun _ => ?_) (fun h => absurd (by decide) h)
        refine ifY ?_
        refine If.mk (fun ga => ?_) (fun ga => ?_)
        case' refine_2 =>
         have e2 : mskR b.vs c p0 p1 p2 p3 m0 m1 m2 m3 m4 m5 0 = mskR b.vs c p0 p1 p2 p3 m0 m1 m2 m3 m4 m5 (0 + 1) := by simp [mskR, bitB, ga]
        case' refine_1 =>
         refine If.mk (fun gb => ?_) (fun gb => ?_)
         case' refine_2 =>
          have e2 : mskR b.vs c p0 p1 p2 p3 m0 m1 m2 m3 m4 m5 0 = mskR b.vs c p0 p1 p2 p3 m0 m1 m2 m3 m4 m5 (0 + 1) := by simp [mskR, bitB, gb]
         case' refine_1 =>
          refine RoundG.fresh (n0 := 8) (aftL b c p0 p1 p2 p3 m0 m1 m2 m3 m4 m5 .ready (kk 1 + 0)) rfl ?_ ?_
          ·exact ⟨bk rfl rfl, bk rfl rfl, bk rfl rfl, bk rfl rfl, bk rfl rfl, bk rfl rfl, bk rfl rfl, bk rfl rfl, trivial⟩
          refine RoundG.introF (m := false) mixed rfl rfl (by decide) ?_
          refine ⟨rfl, _, rfl, rfl, [(7, .ptr 3 0), (8, .ptr 4 0), (13, n' (0 : Nat)), (14, .ptr 8 0)], aftL b c p0 p1 p2 p3 m0 m1 m2 m3 m4 m5 .busy (kk 1 + 0) ++ [(8, .box [n' (1 : Nat), n' (0 : Nat)] 141)], 9, rfl, ?_, ?_, ?_⟩
          ·exact ⟨⟨_, rfl, Weak.refl _ _⟩, ⟨_, rfl, Weak.refl _ _⟩, ⟨_, rfl, Weak.refl _ _⟩, ⟨_, rfl, Weak.refl _ _⟩, trivial⟩
          ·exact ⟨bk rfl rfl, bk rfl rfl, bk rfl rfl, bk rfl rfl, bk rfl rfl, bk rfl rfl, bk rfl rfl, bk rfl rfl, bk rfl rfl, trivial⟩
          refine If.mk (fun ht => ?_) (fun ht => ?_)
          case' refine_1 =>
           refine ifN ?_
           refine ⟨_, _, rfl, rfl, ?_⟩
           have e2 : mskR b.vs c p0 p1 p2 p3 m0 m1 m2 m3 m4 m5 0 = mskR b.vs c p0 p1 p2 p3 m0 m1 m2 m3 m4 m5 (0 + 1) := by simp [mskR, bitB, ht]
          case' refine_2 =>
           refine ifY ?_
           refine ⟨_, _, rfl, rfl, ?_⟩
           have e0 : bitB b.vs c m0 1 0 p1 p0 = true := by simp [bitB, ga, gb, ht]
           have e2 : IntKind.i64.wrap (BitVec.ofInt IntKind.i64.bits (mskR b.vs c p0 p1 p2 p3 m0 m1 m2 m3 m4 m5 0) ||| BitVec.ofInt IntKind.i64.bits 1).toNat = mskR b.vs c p0 p1 p2 p3 m0 m1 m2 m3 m4 m5 (0 + 1) := by
            unfold mskR
            rw [mask_or0]
            simp [e0]
       case' inr =>
        refine If.mk (fun h => absurd h (by decide)) (fun _ => ?_)
        refine ifN ?_
        refine ⟨leb rfl, ?_⟩
        refine Side.mk (fits64 (by omega)) ?_
        refine ⟨leb rfl, rfl, by omega, trivial, ⟨wp rfl (ltb rfl), wp rfl (ltb rfl), wp rfl trivial, wp rfl trivial, trivial⟩, ?_, ?_⟩
        ·exact ⟨bk rfl rfl, bk rfl rfl, bk rfl rfl, bk rfl rfl, bk rfl rfl, bk rfl rfl, bk rfl rfl, bk rfl rfl, trivial⟩
        ·exact ⟨⟨_, rfl, trivial, trivial, trivial, trivial, trivial, trivial⟩, ⟨_, rfl, trivial, trivial, trivial, trivial, trivial⟩, ⟨_, rfl, under_posC _ _ _ _ _ _ _ _ _ _ _⟩, ⟨_, rfl, trivial⟩, ⟨aftB .ready, rfl, under_aftB _⟩, trivial⟩
       all_goals
        refine ifN ?_
        refine Side.mk (by unfold fitsK; kernel_rfl) ?_
        refine Side.mk (by unfold fitsK; kernel_rfl) ?_
        refine ⟨leb rfl, rfl, by omega, trivial, ⟨wp rfl (ltb rfl), wp rfl (ltb rfl), wp rfl trivial, wp rfl trivial, wp rfl trivial, wp rfl trivial, wp rfl trivial, trivial⟩, ⟨bk rfl rfl, bk rfl rfl, bk rfl rfl, ⟨msk_box e2, ltb rfl⟩, bk rfl rfl, bk rfl rfl, bk rfl rfl, bk rfl rfl, trivial⟩, ?_⟩
        first | trivial | exact ⟨⟨aftB .ready, rfl, under_aftB _⟩, trivial⟩ | exact ⟨⟨_, rfl, trivial, trivial, trivial, trivial, trivial, trivial⟩, ⟨_, rfl, trivial, trivial, trivial, trivial, trivial⟩, ⟨_, rfl, under_posC _ _ _ _ _ _ _ _ _ _ _⟩, ⟨_, rfl, trivial⟩, ⟨aftB .ready, rfl, under_aftB _⟩, trivial⟩
     ·refine If.mk (fun _ => ?_) (fun h => absurd (by decide) h)
      refine ifY ?_
      refine LoopG.at (n0 := 8) rfl (loop_up mixed (m := false) (fun r => [(0, .yld 7), (1, .ptr 5 0), (3, n' (kk 2 + r : Nat)), (4, n' (2 : Nat)), (6, n' (2 : Nat)), (9, n' (2 : Nat)), (10, n' r)]) (fun r => aftL b c p0 p1 p2 p3 m0 m1 m2 m3 m4 m5 .ready (kk 2 + r)) (fun _ => True) 2 3 (leb rfl) trivial ?_ ?_ ?_)
      ·exact ⟨wp rfl (ltb rfl), wp rfl (ltb rfl), wp rfl trivial, wp rfl trivial, wp rfl trivial, wp rfl trivial, wp rfl trivial, trivial⟩
      ·exact ⟨bk rfl rfl, bk rfl rfl, bk rfl rfl, bk rfl rfl, bk rfl rfl, bk rfl rfl, bk rfl rfl, bk rfl rfl, trivial⟩
      ·intro r hr _
       have hr4 : r = 0 ∨ r = 1 ∨ r = 2 := by omega
       rcases hr4 with rfl | rfl | rfl
       case' inl =>
        refine If.mk (fun _ => ?_) (fun h => absurd (by decide) h)
        refine ifY ?_
        refine If.mk (fun ga => ?_) (fun ga => ?_)
        case' refine_2 =>
         have e2 : mskR b.vs c p0 p1 p2 p3 m0 m1 m2 m3 m4 m5 1 = mskR b.vs c p0 p1 p2 p3 m0 m1 m2 m3 m4 m5 (1 + 1) := by simp [mskR, bitB, ga]
        case' refine_1 =>
         refine If.mk (fun gb => ?_) (fun gb => ?_)
         case' refine_2 =>
          have e2 : mskR b.vs c p0 p1 p2 p3 m0 m1 m2 m3 m4 m5 1 = mskR b.vs c p0 p1 p2 p3 m0 m1 m2 m3 m4 m5 (1 + 1) := by simp [mskR, bitB, gb]
         case' refine_1 =>
          refine RoundG.fresh (n0 := 8) (aftL b c p0 p1 p2 p3 m0 m1 m2 m3 m4 m5 .ready (kk 2 + 0)) rfl ?_ ?_
          ·exact ⟨bk rfl rfl, bk rfl rfl, bk rfl rfl, bk rfl rfl, bk rfl rfl, bk rfl rfl, bk rfl rfl, bk rfl rfl, trivial⟩
          refine RoundG.introF (m := false) mixed rfl rfl (by decide) ?_
          refine ⟨rfl, _, rfl, rfl, [(7, .ptr 3 0), (8, .ptr 4 0), (13, n' (1 : Nat)), (14, .ptr 8 0)], aftL b c p0 p1 p2 p3 m0 m1 m2 m3 m4 m5 .busy (kk 2 + 0) ++ [(8, .box [n' (2 : Nat), n' (0 : Nat)] 141)], 9, rfl, ?_, ?_, ?_⟩
          ·exact ⟨⟨_, rfl, Weak.refl _ _⟩, ⟨_, rfl, Weak.refl _ _⟩, ⟨_, rfl, Weak.refl _ _⟩, ⟨_, rfl, Weak.refl _ _⟩, trivial⟩
          ·exact ⟨bk rfl rfl, bk rfl rfl, bk rfl rfl, bk rfl rfl, bk rfl rfl, bk rfl rfl, bk rfl rfl, bk rfl rfl, bk rfl rfl, trivial⟩
          refine If.mk (fun ht => ?_) (fun ht => ?_)
          case' refine_1 =>
           refine ifN ?_
           refine ⟨_, _, rfl, rfl, ?_⟩
           have e2 : mskR b.vs c p0 p1 p2 p3 m0 m1 m2 m3 m4 m5 1 = mskR b.vs c p0 p1 p2 p3 m0 m1 m2 m3 m4 m5 (1 + 1) := by simp [mskR, bitB, ht]
          case' refine_2 =>
           refine ifY ?_
           refine ⟨_, _, rfl, rfl, ?_⟩
           have e0 : bitB b.vs c m1 2 0 p2 p0 = true := by simp [bitB, ga, gb, ht]
           have e2 : IntKind.i64.wrap (BitVec.ofInt IntKind.i64.bits (mskR b.vs c p0 p1 p2 p3 m0 m1 m2 m3 m4 m5 1) ||| BitVec.ofInt IntKind.i64.bits 2).toNat = mskR b.vs c p0 p1 p2 p3 m0 m1 m2 m3 m4 m5 (1 + 1) := by
            unfold mskR
            rw [mask_or1]
            simp [e0]
       case' inr.inl =>
        refine If.mk (fun _ => ?_) (fun h => absurd (by decide) h)
        refine ifY ?_
        refine If.mk (fun ga => ?_) (fun ga => ?_)
        case' refine_2 =>
         have e2 : mskR b.vs c p0 p1 p2 p3 m0 m1 m2 m3 m4 m5 2 = mskR b.vs c p0 p1 p2 p3 m0 m1 m2 m3 m4 m5 (2 + 1) := by simp [mskR, bitB, ga]
        case' refine_1 =>
         refine If.mk (fun gb => ?_) (fun gb => ?_)
         case' refine_2 =>
          have e2 : mskR b.vs c p0 p1 p2 p3 m0 m1 m2 m3 m4 m5 2 = mskR b.vs c p0 p1 p2 p3 m0 m1 m2 m3 m4 m5 (2 + 1) := by simp [mskR, bitB, gb]
         case' refine_1 =>
          refine RoundG.fresh (n0 := 8) (aftL b c p0 p1 p2 p3 m0 m1 m2 m3 m4 m5 .ready (kk 2 + 1)) rfl ?_ ?_
          ·exact ⟨bk rfl rfl, bk rfl rfl, bk rfl rfl, bk rfl rfl, bk rfl rfl, bk rfl rfl, bk rfl rfl, bk rfl rfl, trivial⟩
          refine RoundG.introF (m := false) mixed rfl rfl (by decide) ?_
          refine ⟨rfl, _, rfl, rfl, [(7, .ptr 3 0), (8, .ptr 4 0), (13, n' (2 : Nat)), (14, .ptr 8 0)], aftL b c p0 p1 p2 p3 m0 m1 m2 m3 m4 m5 .busy (kk 2 + 1) ++ [(8, .box [n' (2 : Nat), n' (1 : Nat)] 141)], 9, rfl, ?_, ?_, ?_⟩
          ·exact ⟨⟨_, rfl, Weak.refl _ _⟩, ⟨_, rfl, Weak.refl _ _⟩, ⟨_, rfl, Weak.refl _ _⟩, ⟨_, rfl, Weak.refl _ _⟩, trivial⟩
          ·exact ⟨bk rfl rfl, bk rfl rfl, bk rfl rfl, bk rfl rfl, bk rfl rfl, bk rfl rfl, bk rfl rfl, bk rfl rfl, bk rfl rfl, trivial⟩
          refine If.mk (fun ht => ?_) (fun ht => ?_)
          case' refine_1 =>
           refine ifN ?_
           refine ⟨_, _, rfl, rfl, ?_⟩
           have e2 : mskR b.vs c p0 p1 p2 p3 m0 m1 m2 m3 m4 m5 2 = mskR b.vs c p0 p1 p2 p3 m0 m1 m2 m3 m4 m5 (2 + 1) := by simp [mskR, bitB, ht]
          case' refine_2 =>
           refine ifY ?_
           refine ⟨_, _, rfl, rfl, ?_⟩
           have e0 : bitB b.vs c m2 2 1 p2 p1 = true := by simp [bitB, ga, gb, ht]
           have e2 : IntKind.i64.wrap (BitVec.ofInt IntKind.i64.bits (mskR b.vs c p0 p1 p2 p3 m0 m1 m2 m3 m4 m5 2) ||| BitVec.ofInt IntKind.i64.bits 4).toNat = mskR b.vs c p0 p1 p2 p3 m0 m1 m2 m3 m4 m5 (2 + 1) := by
            unfold mskR
            rw [mask_or2]
            simp [e0]
       case' inr.inr =>
        refine If.mk (fun h => absurd h (by decide)) (fun _ => ?_)
        refine ifN ?_
        refine ⟨leb rfl, ?_⟩
        refine Side.mk (fits64 (by omega)) ?_
        refine ⟨leb rfl, rfl, by omega, trivial, ⟨wp rfl (ltb rfl), wp rfl (ltb rfl), wp rfl trivial, wp rfl trivial, trivial⟩, ?_, ?_⟩
        ·exact ⟨bk rfl rfl, bk rfl rfl, bk rfl rfl, bk rfl rfl, bk rfl rfl, bk rfl rfl, bk rfl rfl, bk rfl rfl, trivial⟩
        ·exact ⟨⟨_, rfl, trivial, trivial, trivial, trivial, trivial, trivial⟩, ⟨_, rfl, trivial, trivial, trivial, trivial, trivial⟩, ⟨_, rfl, under_posC _ _ _ _ _ _ _ _ _ _ _⟩, ⟨_, rfl, trivial⟩, ⟨aftB .ready, rfl, under_aftB _⟩, trivial⟩
       all_goals
        refine ifN ?_
        refine Side.mk (by unfold fitsK; kernel_rfl) ?_
        refine Side.mk (by unfold fitsK; kernel_rfl) ?_
        refine ⟨leb rfl, rfl, by omega, trivial, ⟨wp rfl (ltb rfl), wp rfl (ltb rfl), wp rfl trivial, wp rfl trivial, wp rfl trivial, wp rfl trivial, wp rfl trivial, trivial⟩, ⟨bk rfl rfl, bk rfl rfl, bk rfl rfl, ⟨msk_box e2, ltb rfl⟩, bk rfl rfl, bk rfl rfl, bk rfl rfl, bk rfl rfl, trivial⟩, ?_⟩
        first | trivial | exact ⟨⟨aftB .ready, rfl, under_aftB _⟩, trivial⟩ | exact ⟨⟨_, rfl, trivial, trivial, trivial, trivial, trivial, trivial⟩, ⟨_, rfl, trivial, trivial, trivial, trivial, trivial⟩, ⟨_, rfl, under_posC _ _ _ _ _ _ _ _ _ _ _⟩, ⟨_, rfl, trivial⟩, ⟨aftB .ready, rfl, under_aftB _⟩, trivial⟩
     ·refine If.mk (fun _ => ?_) (fun h => absurd (by decide) h)
      refine ifY ?_
      refine LoopG.at (n0 := 8) rfl (loop_up mixed (m := false) (fun r => [(0, .yld 7), (1, .ptr 5 0), (3, n' (kk 3 + r : Nat)), (4, n' (3 : Nat)), (6, n' (3 : Nat)), (9, n' (3 : Nat)), (10, n' r)]) (fun r => aftL b c p0 p1 p2 p3 m0 m1 m2 m3 m4 m5 .ready (kk 3 + r)) (fun _ => True) 3 3 (leb rfl) trivial ?_ ?_ ?_)
      ·exact ⟨wp rfl (ltb rfl), wp rfl (ltb rfl), wp rfl trivial, wp rfl trivial, wp rfl trivial, wp rfl trivial, wp rfl trivial, trivial⟩
      ·exact ⟨bk rfl rfl, bk rfl rfl, bk rfl rfl, bk rfl rfl, bk rfl rfl, bk rfl rfl, bk rfl rfl, bk rfl rfl, trivial⟩
      ·intro r hr _
       have hr4 : r = 0 ∨ r = 1 ∨ r = 2 ∨ r = 3 := by omega
       rcases hr4 with rfl | rfl | rfl | rfl
       case' inl =>
        refine If.mk (fun _ => ?_) (fun h => absurd (by decide) h)
        refine ifY ?_
        refine If.mk (fun ga => ?_) (fun ga => ?_)
        case' refine_2 =>
         have e2 : mskR b.vs c p0 p1 p2 p3 m0 m1 m2 m3 m4 m5 3 = mskR b.vs c p0 p1 p2 p3 m0 m1 m2 m3 m4 m5 (3 + 1) := by simp [mskR, bitB, ga]
        case' refine_1 =>
         refine If.mk (fun gb => ?_) (fun gb => ?_)
         case' refine_2 =>
          have e2 : mskR b.vs c p0 p1 p2 p3 m0 m1 m2 m3 m4 m5 3 = mskR b.vs c p0 p1 p2 p3 m0 m1 m2 m3 m4 m5 (3 + 1) := by simp [mskR, bitB, gb]
         case' refine_1 =>
          refine RoundG.fresh (n0 := 8) (aftL b c p0 p1 p2 p3 m0 m1 m2 m3 m4 m5 .ready (kk 3 + 0)) rfl ?_ ?_
          ·exact ⟨bk rfl rfl, bk rfl rfl, bk rfl rfl, bk rfl rfl, bk rfl rfl, bk rfl rfl, bk rfl rfl, bk rfl rfl, trivial⟩
          refine RoundG.introF (m := false) mixed rfl rfl (by decide) ?_
          refine ⟨rfl, _, rfl, rfl, [(7, .ptr 3 0), (8, .ptr 4 0), (13, n' (3 : Nat)), (14, .ptr 8 0)], aftL b c p0 p1 p2 p3 m0 m1 m2 m3 m4 m5 .busy (kk 3 + 0) ++ [(8, .box [n' (3 : Nat), n' (0 : Nat)] 141)], 9, rfl, ?_, ?_, ?_⟩
          ·exact ⟨⟨_, rfl, Weak.refl _ _⟩, ⟨_, rfl, Weak.refl _ _⟩, ⟨_, rfl, Weak.refl _ _⟩, ⟨_, rfl, Weak.refl _ _⟩, trivial⟩
          ·exact ⟨bk rfl rfl, bk rfl rfl, bk rfl rfl, bk rfl rfl, bk rfl rfl, bk rfl rfl, bk rfl rfl, bk rfl rfl, bk rfl rfl, trivial⟩
          refine If.mk (fun ht => ?_) (fun ht => ?_)
          case' refine_1 =>
           refine ifN ?_
           refine ⟨_, _, rfl, rfl, ?_⟩
           have e2 : mskR b.vs c p0 p1 p2 p3 m0 m1 m2 m3 m4 m5 3 = mskR b.vs c p0 p1 p2 p3 m0 m1 m2 m3 m4 m5 (3 + 1) := by simp [mskR, bitB, ht]
          case' refine_2 =>
           refine ifY ?_
           refine ⟨_, _, rfl, rfl, ?_⟩
           have e0 : bitB b.vs c m3 3 0 p3 p0 = true := by simp [bitB, ga, gb, ht]
           have e2 : IntKind.i64.wrap (BitVec.ofInt IntKind.i64.bits (mskR b.vs c p0 p1 p2 p3 m0 m1 m2 m3 m4 m5 3) ||| BitVec.ofInt IntKind.i64.bits 8).toNat = mskR b.vs c p0 p1 p2 p3 m0 m1 m2 m3 m4 m5 (3 + 1) := by
            unfold mskR
            rw [mask_or3]
            simp [e0]
       case' inr.inl =>
        refine If.mk (fun _ => ?_) (fun h => absurd (by decide) h)
        refine ifY ?_
        refine If.mk (fun ga => ?_) (fun ga => ?_)
        case' refine_2 =>
         have e2 : mskR b.vs c p0 p1 p2 p3 m0 m1 m2 m3 m4 m5 4 = mskR b.vs c p0 p1 p2 p3 m0 m1 m2 m3 m4 m5 (4 + 1) := by simp [mskR, bitB, ga]
        case' refine_1 =>
         refine If.mk (fun gb => ?_) (fun gb => ?_)
         case' refine_2 =>
          have e2 : mskR b.vs c p0 p1 p2 p3 m0 m1 m2 m3 m4 m5 4 = mskR b.vs c p0 p1 p2 p3 m0 m1 m2 m3 m4 m5 (4 + 1) := by simp [mskR, bitB, gb]
         case' refine_1 =>
          refine RoundG.fresh (n0 := 8) (aftL b c p0 p1 p2 p3 m0 m1 m2 m3 m4 m5 .ready (kk 3 + 1)) rfl ?_ ?_
          ·exact ⟨bk rfl rfl, bk rfl rfl, bk rfl rfl, bk rfl rfl, bk rfl rfl, bk rfl rfl, bk rfl rfl, bk rfl rfl, trivial⟩
          refine RoundG.introF (m := false) mixed rfl rfl (by decide) ?_
          refine ⟨rfl, _, rfl, rfl, [(7, .ptr 3 0), (8, .ptr 4 0), (13, n' (4 : Nat)), (14, .ptr 8 0)], aftL b c p0 p1 p2 p3 m0 m1 m2 m3 m4 m5 .busy (kk 3 + 1) ++ [(8, .box [n' (3 : Nat), n' (1 : Nat)] 141)], 9, rfl, ?_, ?_, ?_⟩
          ·exact ⟨⟨_, rfl, Weak.refl _ _⟩, ⟨_, rfl, Weak.refl _ _⟩, ⟨_, rfl, Weak.refl _ _⟩, ⟨_, rfl, Weak.refl _ _⟩, trivial⟩
          ·exact ⟨bk rfl rfl, bk rfl rfl, bk rfl rfl, bk rfl rfl, bk rfl rfl, bk rfl rfl, bk rfl rfl, bk rfl rfl, bk rfl rfl, trivial⟩
          refine If.mk (fun ht => ?_) (fun ht => ?_)
          case' refine_1 =>
           refine ifN ?_
           refine ⟨_, _, rfl, rfl, ?_⟩
           have e2 : mskR b.vs c p0 p1 p2 p3 m0 m1 m2 m3 m4 m5 4 = mskR b.vs c p0 p1 p2 p3 m0 m1 m2 m3 m4 m5 (4 + 1) := by simp [mskR, bitB, ht]
          case' refine_2 =>
           refine ifY ?_
           refine ⟨_, _, rfl, rfl, ?_⟩
           have e0 : bitB b.vs c m4 3 1 p3 p1 = true := by simp [bitB, ga, gb, ht]
           have e2 : IntKind.i64.wrap (BitVec.ofInt IntKind.i64.bits (mskR b.vs c p0 p1 p2 p3 m0 m1 m2 m3 m4 m5 4) ||| BitVec.ofInt IntKind.i64.bits 16).toNat = mskR b.vs c p0 p1 p2 p3 m0 m1 m2 m3 m4 m5 (4 + 1) := by
            unfold mskR
            rw [mask_or4]
            simp [e0]
       case' inr.inr.inl =>
        refine If.mk (fun _ => ?_) (fun h => absurd (by decide) h)
        refine ifY ?_
        refine If.mk (fun ga => ?_) (fun ga => ?_)
        case' refine_2 =>
         have e2 : mskR b.vs c p0 p1 p2 p3 m0 m1 m2 m3 m4 m5 5 = mskR b.vs c p0 p1 p2 p3 m0 m1 m2 m3 m4 m5 (5 + 1) := by simp [mskR, bitB, ga]
        case' refine_1 =>
         refine If.mk (fun gb => ?_) (fun gb => ?_)
         case' refine_2 =>
          have e2 : mskR b.vs c p0 p1 p2 p3 m0 m1 m2 m3 m4 m5 5 = mskR b.vs c p0 p1 p2 p3 m0 m1 m2 m3 m4 m5 (5 + 1) := by simp [mskR, bitB, gb]
         case' refine_1 =>
          refine RoundG.fresh (n0 := 8) (aftL b c p0 p1 p2 p3 m0 m1 m2 m3 m4 m5 .ready (kk 3 + 2)) rfl ?_ ?_
          ·exact ⟨bk rfl rfl, bk rfl rfl, bk rfl rfl, bk rfl rfl, bk rfl rfl, bk rfl rfl, bk rfl rfl, bk rfl rfl, trivial⟩
          refine RoundG.introF (m := false) mixed rfl rfl (by decide) ?_
          refine ⟨rfl, _, rfl, rfl, [(7, .ptr 3 0), (8, .ptr 4 0), (13, n' (5 : Nat)), (14, .ptr 8 0)], aftL b c p0 p1 p2 p3 m0 m1 m2 m3 m4 m5 .busy (kk 3 + 2) ++ [(8, .box [n' (3 : Nat), n' (2 : Nat)] 141)], 9, rfl, ?_, ?_, ?_⟩
          ·exact ⟨⟨_, rfl, Weak.refl _ _⟩, ⟨_, rfl, Weak.refl _ _⟩, ⟨_, rfl, Weak.refl _ _⟩, ⟨_, rfl, Weak.refl _ _⟩, trivial⟩
          ·exact ⟨bk rfl rfl, bk rfl rfl, bk rfl rfl, bk rfl rfl, bk rfl rfl, bk rfl rfl, bk rfl rfl, bk rfl rfl, bk rfl rfl, trivial⟩
          refine If.mk (fun ht => ?_) (fun ht => ?_)
          case' refine_1 =>
           refine ifN ?_
           refine ⟨_, _, rfl, rfl, ?_⟩
           have e2 : mskR b.vs c p0 p1 p2 p3 m0 m1 m2 m3 m4 m5 5 = mskR b.vs c p0 p1 p2 p3 m0 m1 m2 m3 m4 m5 (5 + 1) := by simp [mskR, bitB, ht]
          case' refine_2 =>
           refine ifY ?_
           refine ⟨_, _, rfl, rfl, ?_⟩
           have e0 : bitB b.vs c m5 3 2 p3 p2 = true := by simp [bitB, ga, gb, ht]
           have e2 : IntKind.i64.wrap (BitVec.ofInt IntKind.i64.bits (mskR b.vs c p0 p1 p2 p3 m0 m1 m2 m3 m4 m5 5) ||| BitVec.ofInt IntKind.i64.bits 32).toNat = mskR b.vs c p0 p1 p2 p3 m0 m1 m2 m3 m4 m5 (5 + 1) := by
            unfold mskR
            rw [mask_or5]
            simp [e0]
       case' inr.inr.inr =>
        refine If.mk (fun h => absurd h (by decide)) (fun _ => ?_)
        refine ifN ?_
        refine ⟨leb rfl, ?_⟩
        refine Side.mk (fits64 (by omega)) ?_
        refine ⟨leb rfl, rfl, by omega, trivial, ⟨wp rfl (ltb rfl), wp rfl (ltb rfl), wp rfl trivial, wp rfl trivial, trivial⟩, ?_, ?_⟩
        ·exact ⟨bk rfl rfl, bk rfl rfl, bk rfl rfl, bk rfl rfl, bk rfl rfl, bk rfl rfl, bk rfl rfl, bk rfl rfl, trivial⟩
        ·exact ⟨⟨_, rfl, trivial, trivial, trivial, trivial, trivial, trivial⟩, ⟨_, rfl, trivial, trivial, trivial, trivial, trivial⟩, ⟨_, rfl, under_posC _ _ _ _ _ _ _ _ _ _ _⟩, ⟨_, rfl, trivial⟩, ⟨aftB .ready, rfl, under_aftB _⟩, trivial⟩
       all_goals
        refine ifN ?_
        refine Side.mk (by unfold fitsK; kernel_rfl) ?_
        refine Side.mk (by unfold fitsK; kernel_rfl) ?_
        refine ⟨leb rfl, rfl, by omega, trivial, ⟨wp rfl (ltb rfl), wp rfl (ltb rfl), wp rfl trivial, wp rfl trivial, wp rfl trivial, wp rfl trivial, wp rfl trivial, trivial⟩, ⟨bk rfl rfl, bk rfl rfl, bk rfl rfl, ⟨msk_box e2, ltb rfl⟩, bk rfl rfl, bk rfl rfl, bk rfl rfl, bk rfl rfl, trivial⟩, ?_⟩
        first | trivial | exact ⟨⟨aftB .ready, rfl, under_aftB _⟩, trivial⟩ | exact ⟨⟨_, rfl, trivial, trivial, trivial, trivial, trivial, trivial⟩, ⟨_, rfl, trivial, trivial, trivial, trivial, trivial⟩, ⟨_, rfl, under_posC _ _ _ _ _ _ _ _ _ _ _⟩, ⟨_, rfl, trivial⟩, ⟨aftB .ready, rfl, under_aftB _⟩, trivial⟩
     ·refine If.mk (fun h => absurd h (by decide)) (fun _ => ?_)
      refine ifN ?_
      refine ⟨leb rfl, ?_⟩
      refine .inl ⟨.inr rfl, _, rfl, rfl, ?_⟩
      refine ⟨_, _, rfl, (fun e => by cases e), rfl, rfl, [(6, .ptr 2 0), (7, .ptr 3 0)], (aftL b c p0 p1 p2 p3 m0 m1 m2 m3 m4 m5 .ready 6).take 4, 8, rfl, ?_, ?_, ?_⟩
      ·exact ⟨⟨_, rfl, Weak.refl _ _⟩, ⟨_, rfl, Weak.refl _ _⟩, trivial⟩
      ·exact ⟨bk rfl rfl, bk rfl rfl, bk rfl rfl, bk rfl rfl, trivial⟩
      refine ⟨.inl rfl, FinM.mk _ rfl rfl ?_⟩
      show AV.agg [n' (nxI b.vs c 0 p0), n' (nxI b.vs c 1 p1), n' (nxI b.vs c 2 p2), n' (nxI b.vs c 3 p3), n' (mskR b.vs c p0 p1 p2 p3 m0 m1 m2 m3 m4 m5 6)] = _
      simp [mskR, posC]
end Go.Vm

namespace Go.Vm
open Go.Proofs
end Go.Vm

namespace Go.Vm
open Go.Proofs
def bgI (l : List Int) (n : Nat) : Int := if (n : Int) ∈ l then 0 else -1
def bgR (l : List Int) (r n : Nat) : Int := if n < r then bgI l n else 0
set_option maxHeartbeats 4000000 in
set_option maxRecDepth 100000 in
theorem c_posBegun (l : List Int) (hl : l.length < 4611686018427387904) (H : List Blk) : ACall Tryz.prog 105 [eInts l] H (.ret (.agg (posC (bgI l 0) (bgI l 1) (bgI l 2) (bgI l 3) false false false false false false))) H := by
 refine fn_rule (m := false) (fn := Tryz.f105) (c := (Tryz.f105.body).getD .skip) mixed (by kernel_rfl) (by kernel_rfl) (of_decide_eq_true (by kernel_rfl)) ?_ ?_ ?_ H
 ·exact ⟨under_eInts 0 _, trivial⟩
 ·exact under_posC 0 _ _ _ _ _ _ _ _ _ _
 ·refine LoopG.at (n0 := 2) rfl (loop_up mixed (m := false) (fun r => [(0, eInts l), (2, .ptr 0 0), (3, .ptr 1 0), (5, n' r)]) (fun r => [(0, .box [n' 0, n' 0, n' 0, n' 0, n' 0] 130), (1, .box [n' (bgR l r 0), n' (bgR l r 1), n' (bgR l r 2), n' (bgR l r 3), n' 0] 130)]) (fun _ => True) 4 1 (leb rfl) trivial ?_ ?_ ?_)
  ·exact ⟨⟨_, rfl, Weak.refl _ _, under_eInts _ _⟩, wp rfl (ltb rfl), wp rfl (ltb rfl), wp rfl trivial, trivial⟩
  ·exact ⟨bk rfl rfl, bk rfl rfl, trivial⟩
  ·intro r hr _
   have hr4 : r = 0 ∨ r = 1 ∨ r = 2 ∨ r = 3 ∨ r = 4 := by omega
   rcases hr4 with rfl | rfl | rfl | rfl | rfl
   ·refine If.mk (fun _ => ?_) (fun h => absurd (by decide) h)
    refine ifY ?_
    refine CallG.bool (c_contains l (0 : Nat) hl) (fun h => ?_) (fun h => ?_)
    ·refine ifN ?_
     refine Side.mk (by unfold fitsK; kernel_rfl) ?_
     refine ⟨leb rfl, rfl, by omega, trivial, ⟨⟨_, rfl, Weak.refl _ _, under_eInts _ _⟩, wp rfl (ltb rfl), wp rfl (ltb rfl), wp rfl trivial, trivial⟩, ⟨bk rfl rfl, ⟨?_, ltb rfl⟩, trivial⟩, trivial⟩
     have e : bgI l 0 = 0 := if_pos h
     show some (Blk.box [n' (bgR l 0 0), n' (bgR l 0 1), n' (bgR l 0 2), n' (bgR l 0 3), n' 0] 130) = _
     simp [bgR, e]
    ·refine ifY ?_
     refine Side.mk (by unfold fitsK; kernel_rfl) ?_
     refine ⟨leb rfl, rfl, by omega, trivial, ⟨⟨_, rfl, Weak.refl _ _, under_eInts _ _⟩, wp rfl (ltb rfl), wp rfl (ltb rfl), wp rfl trivial, trivial⟩, ⟨bk rfl rfl, ⟨?_, ltb rfl⟩, trivial⟩, ⟨_, rfl, trivial, trivial, trivial, trivial, trivial, trivial⟩, trivial⟩
     have e : bgI l 0 = -1 := if_neg h
     show some (Blk.box [n' (-1), n' (bgR l 0 1), n' (bgR l 0 2), n' (bgR l 0 3), n' 0] 130) = _
     simp [bgR, e]
   ·refine If.mk (fun _ => ?_) (fun h => absurd (by decide) h)
    refine ifY ?_
    refine CallG.bool (c_contains l (1 : Nat) hl) (fun h => ?_) (fun h => ?_)
    ·refine ifN ?_
     refine Side.mk (by unfold fitsK; kernel_rfl) ?_
     refine ⟨leb rfl, rfl, by omega, trivial, ⟨⟨_, rfl, Weak.refl _ _, under_eInts _ _⟩, wp rfl (ltb rfl), wp rfl (ltb rfl), wp rfl trivial, trivial⟩, ⟨bk rfl rfl, ⟨?_, ltb rfl⟩, trivial⟩, trivial⟩
     have e : bgI l 1 = 0 := if_pos h
     show some (Blk.box [n' (bgR l 1 0), n' (bgR l 1 1), n' (bgR l 1 2), n' (bgR l 1 3), n' 0] 130) = _
     simp [bgR, e]
    ·refine ifY ?_
     refine Side.mk (by unfold fitsK; kernel_rfl) ?_
     refine ⟨leb rfl, rfl, by omega, trivial, ⟨⟨_, rfl, Weak.refl _ _, under_eInts _ _⟩, wp rfl (ltb rfl), wp rfl (ltb rfl), wp rfl trivial, trivial⟩, ⟨bk rfl rfl, ⟨?_, ltb rfl⟩, trivial⟩, ⟨_, rfl, trivial, trivial, trivial, trivial, trivial, trivial⟩, trivial⟩
     have e : bgI l 1 = -1 := if_neg h
     show some (Blk.box [n' (bgR l 1 0), n' (-1), n' (bgR l 1 2), n' (bgR l 1 3), n' 0] 130) = _
     simp [bgR, e]
   ·refine If.mk (fun _ => ?_) (fun h => absurd (by decide) h)
    refine ifY ?_
    refine CallG.bool (c_contains l (2 : Nat) hl) (fun h => ?_) (fun h => ?_)
    ·refine ifN ?_
     refine Side.mk (by unfold fitsK; kernel_rfl) ?_
     refine ⟨leb rfl, rfl, by omega, trivial, ⟨⟨_, rfl, Weak.refl _ _, under_eInts _ _⟩, wp rfl (ltb rfl), wp rfl (ltb rfl), wp rfl trivial, trivial⟩, ⟨bk rfl rfl, ⟨?_, ltb rfl⟩, trivial⟩, trivial⟩
     have e : bgI l 2 = 0 := if_pos h
     show some (Blk.box [n' (bgR l 2 0), n' (bgR l 2 1), n' (bgR l 2 2), n' (bgR l 2 3), n' 0] 130) = _
     simp [bgR, e]
    ·refine ifY ?_
     refine Side.mk (by unfold fitsK; kernel_rfl) ?_
     refine ⟨leb rfl, rfl, by omega, trivial, ⟨⟨_, rfl, Weak.refl _ _, under_eInts _ _⟩, wp rfl (ltb rfl), wp rfl (ltb rfl), wp rfl trivial, trivial⟩, ⟨bk rfl rfl, ⟨?_, ltb rfl⟩, trivial⟩, ⟨_, rfl, trivial, trivial, trivial, trivial, trivial, trivial⟩, trivial⟩
     have e : bgI l 2 = -1 := if_neg h
     show some (Blk.box [n' (bgR l 2 0), n' (bgR l 2 1), n' (-1), n' (bgR l 2 3), n' 0] 130) = _
     simp [bgR, e]
   ·refine If.mk (fun _ => ?_) (fun h => absurd (by decide) h)
    refine ifY ?_
    refine CallG.bool (c_contains l (3 : Nat) hl) (fun h => ?_) (fun h => ?_)
    ·refine ifN ?_
     refine Side.mk (by unfold fitsK; kernel_rfl) ?_
     refine ⟨leb rfl, rfl, by omega, trivial, ⟨⟨_, rfl, Weak.refl _ _, under_eInts _ _⟩, wp rfl (ltb rfl), wp rfl (ltb rfl), wp rfl trivial, trivial⟩, ⟨bk rfl rfl, ⟨?_, ltb rfl⟩, trivial⟩, trivial⟩
     have e : bgI l 3 = 0 := if_pos h
     show some (Blk.box [n' (bgR l 3 0), n' (bgR l 3 1), n' (bgR l 3 2), n' (bgR l 3 3), n' 0] 130) = _
     simp [bgR, e]
    ·refine ifY ?_
     refine Side.mk (by unfold fitsK; kernel_rfl) ?_
     refine ⟨leb rfl, rfl, by omega, trivial, ⟨⟨_, rfl, Weak.refl _ _, under_eInts _ _⟩, wp rfl (ltb rfl), wp rfl (ltb rfl), wp rfl trivial, trivial⟩, ⟨bk rfl rfl, ⟨?_, ltb rfl⟩, trivial⟩, ⟨_, rfl, trivial, trivial, trivial, trivial, trivial, trivial⟩, trivial⟩
     have e : bgI l 3 = -1 := if_neg h
     show some (Blk.box [n' (bgR l 3 0), n' (bgR l 3 1), n' (bgR l 3 2), n' (-1), n' 0] 130) = _
     simp [bgR, e]
   ·refine If.mk (fun h => absurd h (by decide)) (fun _ => ?_)
    refine ifN ?_
    refine ⟨leb rfl, ?_⟩
    refine ⟨.inl rfl, FinG.mk _ rfl rfl ?_⟩
    show AV.agg [n' (bgR l 4 0), n' (bgR l 4 1), n' (bgR l 4 2), n' (bgR l 4 3), n' 0] = _
    simp [bgR, posC, maskI]
end Go.Vm

namespace Go.Vm
open Go.Proofs
abbrev Pos := (Int × Int × Int × Int) × (Bool × Bool × Bool × Bool × Bool × Bool)
def posA (p : Pos) : List AV := posC p.1.1 p.1.2.1 p.1.2.2.1 p.1.2.2.2 p.2.1 p.2.2.1 p.2.2.2.1 p.2.2.2.2.1 p.2.2.2.2.2.1 p.2.2.2.2.2.2
theorem under_posA (n : Nat) (p : Pos) : AV.unders n (posA p) := under_posC n _ _ _ _ _ _ _ _ _ _
def maskP (p : Pos) : Int := maskI p.2.1 p.2.2.1 p.2.2.2.1 p.2.2.2.2.1 p.2.2.2.2.2.1 p.2.2.2.2.2.2
def posV (p : Pos) : Value := .agg #[.int .i64 p.1.1, .int .i64 p.1.2.1, .int .i64 p.1.2.2.1, .int .i64 p.1.2.2.2, .int .i64 (maskP p)]
def PosK (vs : List Vers) (p : Pos) : Prop := PosOk vs 0 p.1.1 ∧ PosOk vs 1 p.1.2.1 ∧ PosOk vs 2 p.1.2.2.1 ∧ PosOk vs 3 p.1.2.2.2
def nextP (vs : List Vers) (p : Pos) (c : Nat) : Pos :=
 ((nxI vs c 0 p.1.1, nxI vs c 1 p.1.2.1, nxI vs c 2 p.1.2.2.1, nxI vs c 3 p.1.2.2.2),
  (bitB vs c p.2.1 1 0 p.1.2.1 p.1.1, bitB vs c p.2.2.1 2 0 p.1.2.2.1 p.1.1, bitB vs c p.2.2.2.1 2 1 p.1.2.2.1 p.1.2.1, bitB vs c p.2.2.2.2.1 3 0 p.1.2.2.2 p.1.1, bitB vs c p.2.2.2.2.2.1 3 1 p.1.2.2.2 p.1.2.1, bitB vs c p.2.2.2.2.2.2 3 2 p.1.2.2.2 p.1.2.2.1))
theorem maskI_inj : ∀ {a b c d e f a' b' c' d' e' f' : Bool}, maskI a b c d e f = maskI a' b' c' d' e' f' → a = a' ∧ b = b' ∧ c = c' ∧ d = d' ∧ e = e' ∧ f = f' := by
 intro a b c d e f a' b' c' d' e' f' h
 unfold maskI at h
 cases a <;> cases b <;> cases c <;> cases d <;> cases e <;> cases f <;> cases a' <;> cases b' <;> cases c' <;> cases d' <;> cases e' <;> cases f' <;> simp at h ⊢
theorem posV_inj {p q : Pos} : veq (posV p) (posV q) = true ↔ p = q := by
 obtain ⟨⟨a, b, c, d⟩, e⟩ := p
 obtain ⟨⟨a', b', c', d'⟩, e'⟩ := q
 simp only [posV, veq, veqs, Bool.and_true, Bool.and_eq_true, decide_eq_true_eq]
 refine ⟨fun ⟨h1, h2, h3, h4, h5⟩ => ?_, fun h => by cases h; exact ⟨rfl, rfl, rfl, rfl, rfl⟩⟩
 obtain ⟨k1, k2, k3, k4, k5, k6⟩ := maskI_inj h5
 subst h1 h2 h3 h4
 obtain ⟨x1, x2, x3, x4, x5, x6⟩ := e
 obtain ⟨y1, y2, y3, y4, y5, y6⟩ := e'
 simp only at k1 k2 k3 k4 k5 k6
 subst k1 k2 k3 k4 k5 k6
 rfl
def metE (met : List Pos) : List (Value × AV) := met.map fun p => (posV p, tv)
theorem mlook_met {p : Pos} : ∀ {met : List Pos}, mlook (metE met) (posV p) = if p ∈ met then some tv else none
 | [] => rfl
 | q :: met => by
  have ih := mlook_met (p := p) (met := met)
  unfold mlook metE at ih ⊢
  rw [List.map_cons, List.find?_cons]
  by_cases h : veq (posV q) (posV p) = true
  ·have := posV_inj.1 h
   subst this
   simp only [h, Option.map_some]
   rw [if_pos (by simp)]
  ·have hne : ¬ q = p := fun e => h (posV_inj.2 e)
   have h' : veq (posV q) (posV p) = false := by simpa using h
   simp only [h']
   rw [ih]
   by_cases hm : p ∈ met
   ·rw [if_pos hm, if_pos (by simp [hm])]
   ·rw [if_neg hm, if_neg (by simp [hm]; exact fun e => hne e.symm)]
theorem mset_met {p : Pos} : ∀ {met : List Pos}, p ∉ met → mset (metE met) (posV p) tv = metE (met ++ [p])
 | [], _ => rfl
 | q :: met, h => by
  have hne : ¬ veq (posV q) (posV p) = true := fun e => h (by rw [posV_inj.1 e]; simp)
  show (if veq (posV q) (posV p) = true then _ else (posV q, tv) :: mset (metE met) (posV p) tv) = _
  rw [if_neg hne, mset_met fun hm => h (by simp [hm])]
  rfl
def PosS (p : Pos) : Prop := (-1 ≤ p.1.1 ∧ p.1.1 ≤ 1000) ∧ (-1 ≤ p.1.2.1 ∧ p.1.2.1 ≤ 1000) ∧ (-1 ≤ p.1.2.2.1 ∧ p.1.2.2.1 ≤ 1000) ∧ -1 ≤ p.1.2.2.2 ∧ p.1.2.2.2 ≤ 1000
theorem maskI_small (a b c d e f : Bool) : -1 ≤ maskI a b c d e f ∧ maskI a b c d e f ≤ 1000 := by
 cases a <;> cases b <;> cases c <;> cases d <;> cases e <;> cases f <;> decide
theorem shOk_pos {p : Pos} (h : PosS p) : shOk (.arr 5) (posV p) = true := by
 obtain ⟨h1, h2, h3, h4⟩ := h
 simp only [posV, shOk]
 simp only [List.all_cons, List.all_nil, isI64_small h1, isI64_small h2, isI64_small h3, isI64_small h4, isI64_small (maskI_small _ _ _ _ _ _), maskP]
 rfl
theorem aop_lookup {m : Bool} {g : Nat → Option Blk} {n : Nat} {ρ : Operand → Option AV} {o : Oper} {x k : Operand} {id : Nat} {p : Pos} {met : List Pos} (ho : o.op = .lookup 189 x k false) (hx : ρ x = some (.mp id)) (hk : ρ k = some (.agg (posA p))) (hg : g id = some (.map (.arr 5) (metE met))) (hp : PosS p) :
  aopF Tryz.prog m g n ρ o = some (.val (.lit (.bool (decide (p ∈ met)))) .same) := by
 rw [aopF_fun]
 obtain ⟨dst, op, ty, pos, after, guard⟩ := o
 simp only at ho
 subst ho
 have ht : tmap Tryz.prog 189 = some (.arr 5, 130, 4) := by kernel_rfl
 have hz : tz Tryz.prog 4 = some (.bool false) := by kernel_rfl
 have hc : conc (.agg (posA p)) = some (posV p) := rfl
 simp only [aopT, hx, hk, ht, hc, hg, hz, mlook_met]
 rw [if_pos ⟨rfl, shOk_pos hp⟩]
 by_cases hm : p ∈ met
 ·rw [if_pos hm, decide_eq_true hm]; rfl
 ·rw [if_neg hm, decide_eq_false hm]; rfl
theorem aop_update {m : Bool} {g : Nat → Option Blk} {n : Nat} {ρ : Operand → Option AV} {o : Oper} {x k y : Operand} {id : Nat} {p : Pos} {met : List Pos} (ho : o.op = .mapUpdate 189 x k y ∨ o.op = .insert 189 x k y) (hx : ρ x = some (.mp id)) (hk : ρ k = some (.agg (posA p))) (hy : ρ y = some tv) (hg : g id = some (.map (.arr 5) (metE met))) (hp : PosS p) (hm : p ∉ met) :
  aopF Tryz.prog m g n ρ o = some (.val (.lit undef) (.set id (.map (.arr 5) (metE (met ++ [p]))))) := by
 rw [aopF_fun]
 obtain ⟨dst, op, ty, pos, after, guard⟩ := o
 simp only at ho
 have ht : tmap Tryz.prog 189 = some (.arr 5, 130, 4) := by kernel_rfl
 have hc : conc (.agg (posA p)) = some (posV p) := rfl
 rcases ho with rfl | rfl
 ·simp only [aopT, hx, hk, hy, ht, hc, hg, mset_met hm]
  rw [if_pos ⟨rfl, shOk_pos hp⟩]
 ·simp only [aopT, hx, hk, hy, ht, hc, hg, mset_met hm]
  rw [if_pos ⟨rfl, shOk_pos hp⟩]
end Go.Vm

namespace Go.Vm
open Go.Proofs
def r5 : List Int := [-1, 0, 1, 2, 3]
def posAll : List Pos := prodL (prodL r5 (prodL r5 (prodL r5 r5))) (prodL r2 (prodL r2 (prodL r2 (prodL r2 (prodL r2 r2)))))
theorem posAll_length : posAll.length = 40000 := by
 unfold posAll
 simp only [prodL_length]
 rfl
def Small (vs : List Vers) : Prop := ∀ v ∈ vs, v.length ≤ 4
theorem PosOk.small {vs : List Vers} (hs : Small vs) {n : Nat} {p : Int} (h : PosOk vs n p) : -1 ≤ p ∧ p ≤ 3 := by
 rcases h with rfl | ⟨h1, h2, h3⟩
 ·omega
 ·have e : vs.getD n [] = vs[n] := by simp [List.getD, List.getElem?_eq_getElem h2]
  rw [e] at h3
  have := hs _ (List.getElem_mem h2)
  omega
theorem r5_mem {p : Int} (h : -1 ≤ p ∧ p ≤ 3) : p ∈ r5 := by
 have : p = -1 ∨ p = 0 ∨ p = 1 ∨ p = 2 ∨ p = 3 := by omega
 rcases this with rfl | rfl | rfl | rfl | rfl <;> simp [r5]
theorem PosK.all {vs : List Vers} (hs : Small vs) {p : Pos} (h : PosK vs p) : p ∈ posAll := by
 obtain ⟨h0, h1, h2, h3⟩ := h
 obtain ⟨⟨a, b, c, d⟩, x1, x2, x3, x4, x5, x6⟩ := p
 exact prodL_mem (prodL_mem (r5_mem (h0.small hs)) (prodL_mem (r5_mem (h1.small hs)) (prodL_mem (r5_mem (h2.small hs)) (r5_mem (h3.small hs))))) (prodL_mem (r2_mem _) (prodL_mem (r2_mem _) (prodL_mem (r2_mem _) (prodL_mem (r2_mem _) (prodL_mem (r2_mem _) (r2_mem _))))))
theorem PosK.posS {vs : List Vers} (hs : Small vs) {p : Pos} (h : PosK vs p) : PosS p := by
 obtain ⟨h0, h1, h2, h3⟩ := h
 have := h0.small hs
 have := h1.small hs
 have := h2.small hs
 have := h3.small hs
 exact ⟨by omega, by omega, by omega, by omega⟩
theorem PosK.next {vs : List Vers} {k c : Nat} (hv : ∀ v ∈ vs, VersOk v k) (hc : c < k) {p : Pos} (h : PosK vs p) : PosK vs (nextP vs p c) :=
 ⟨nx_ok hv hc h.1, nx_ok hv hc h.2.1, nx_ok hv hc h.2.2.1, nx_ok hv hc h.2.2.2⟩
def wayA (w : Pos × List Nat) : List AV := posA w.1 ++ [cuesA w.2]
def waysA (q : List (Pos × List Nat)) : List AV := q.flatMap wayA
theorem waysA_length : ∀ q : List (Pos × List Nat), (waysA q).length = q.length * 6
 | [] => rfl
 | w :: q => by
  have ih := waysA_length q
  unfold waysA at ih ⊢
  rw [List.flatMap_cons, List.length_append, ih, List.length_cons]
  show 6 + q.length * 6 = _
  omega
theorem waysA_snoc (q : List (Pos × List Nat)) (w : Pos × List Nat) : waysA (q ++ [w]) = waysA q ++ wayA w := by
 unfold waysA
 rw [List.flatMap_append, List.flatMap_cons, List.flatMap_nil, List.append_nil]
theorem under_waysA (n : Nat) : ∀ q : List (Pos × List Nat), AV.unders n (waysA q)
 | [] => trivial
 | w :: q => unders_append (unders_append (under_posA n w.1) ⟨under_cuesA n w.2, trivial⟩) (under_waysA n q)
theorem jx_way {w : Pos × List Nat} {q : List (Pos × List Nat)} {tl : Tail} : indexOp Tryz.prog 192 (.sl (w :: q).length (waysA (w :: q)) tl) (.lit (.int .i64 0)) = some (.eptr (wayA w)) := by
 refine (indexOp_sl (elem := 191) (n := 6) (by kernel_rfl) (by kernel_rfl) ⟨by omega, by simp, by rw [waysA_length, List.length_cons]; omega, by omega⟩).trans ?_
 rfl
theorem aop_sliceW {m : Bool} {g : Nat → Option Blk} {n : Nat} {ρ : Operand → Option AV} {o : Oper} {x i : Operand} {w : Pos × List Nat} {q : List (Pos × List Nat)} {id gen : Nat} (ho : o.op = .slice 192 x (some i) none none) (hx : ρ x = some (.sl (w :: q).length (waysA (w :: q)) (.own id gen 6))) (hi : ρ i = some (n' 1)) :
  aopF Tryz.prog m g n ρ o = some (.val (.sl q.length (waysA q) (.own id gen 6)) .same) := by
 rw [aopF_fun]
 obtain ⟨dst, op, ty, pos, after, guard⟩ := o
 simp only at ho
 subst ho
 have hu : Tryz.prog.underlying 192 = some (.slice 191) := by kernel_rfl
 have hs : tsz Tryz.prog 191 = some 6 := by kernel_rfl
 have hl := waysA_length q
 have hlw := waysA_length (w :: q)
 have e : sliceA Tryz.prog 192 (.sl (w :: q).length (waysA (w :: q)) (.own id gen 6)) (some 1) none none = some (.sl q.length (waysA q) (.own id gen 6)) := by
  unfold sliceA
  simp only [hu, hs]
  rw [if_pos ⟨by simp, by simp, by simp, by simp, hlw, by omega⟩]
  have e1 : (waysA (w :: q)).drop (1 * 6) = waysA q := rfl
  simp only [Option.getD_some, Option.getD_none, List.length_cons, Nat.add_sub_cancel]
  rw [e1, List.take_of_length_le (by omega)]
  rfl
 have hn : natOf (some (n' 1)) = some (some 1) := by simp [natOf, n']
 have ha : ∀ H, aop Tryz.prog m H ρ { dst := dst, op := Op.slice 192 x (some i) none none, type := ty, pos := pos, after := after, guard := guard } = some (.val (.sl q.length (waysA q) (.own id gen 6)) H) := fun H => by
  simp only [aop, hx, Option.bind_some, hi, hn, Option.bind_none]
  simp only [natOf, e]
  rfl
 simp only [aopT]
 unfold plainT
 rw [ha]
theorem app_way {g : Nat → Option Blk} {n id gen : Nat} {q : List (Pos × List Nat)} {p : Pos} {x : AV} (h2 : q.length < 2097152) (hg : g id = some (.row gen)) (hx : x.one = true) :
  appT Tryz.prog false g n 192 192 (.sl q.length (waysA q) (.own id gen 6)) (.sl 1 (posA p ++ [x]) .full) = some (.sl (q.length + 1) (waysA q ++ (posA p ++ [x])) (.own id (gen + 1) 6), .set id (.row (gen + 1))) := by
 refine appT_own (e := 191) (bytes := 64) (z := .agg #[.int .i64 0, .int .i64 0, .int .i64 0, .int .i64 0, .int .i64 0, .slice none 0 0]) (by kernel_rfl) (by kernel_rfl) (by kernel_rfl) (by kernel_rfl) (by kernel_rfl) rfl (by omega) (by rw [waysA_length]) (by omega) hg ?_
 show (true && (true && (true && (true && (true && (x.one && true)))))) = true
 rw [hx]; rfl
end Go.Vm

namespace Go.Vm
open Go.Proofs
structure Bf where
 q : List (Pos × List Nat)
 met : List Pos
 g : Nat
def Bd (vs : List Vers) (s : Bf) : Prop := s.met.Nodup ∧ (∀ p ∈ s.met, PosK vs p) ∧ s.q.length ≤ s.met.length ∧ (∀ w ∈ s.q, w.2.length < s.met.length ∧ PosK vs w.1)
theorem Bd.le {vs : List Vers} (hs : Small vs) {s : Bf} (h : Bd vs s) : s.met.length ≤ 40000 := by
 classical
 rw [← posAll_length]
 exact nodup_length h.1 fun p hp => (h.2.1 p hp).all hs
theorem wk_way {t : Trie Blk} {q : List (Pos × List Nat)} {p : Pos} {l : List Nat} {r id g : Nat} {tl : Tail} :
  Weak t (.sl (q.length + 1) (waysA q ++ (posA p ++ [.sl ((cuesI l).length + 1) ((cuesI l).map n' ++ [n' r]) tl])) (.own id g 6)) (.sl (q ++ [(p, l ++ [r])]).length (waysA (q ++ [(p, l ++ [r])])) (.own id g 6)) := fun _ H _ => by
 rw [waysA_snoc, List.length_append]
 show WeakH H _ (.sl (q.length + 1) (waysA q ++ (posA p ++ [cuesA (l ++ [r])])) (.own id g 6))
 rw [← List.append_assoc, ← List.append_assoc]
 refine wk_sl (Weaks.snoc (fun H => ?_) _)
 unfold cuesA
 rw [cuesI_snoc]
 exact wk_snocI H
theorem under_metE (n : Nat) : ∀ met : List Pos, AV.unders n ((metE met).map (·.2))
 | [] => trivial
 | _ :: met => ⟨trivial, under_metE n met⟩
end Go.Vm

namespace Go.Vm
open Go.Proofs
def tellV : Option (List Nat) → AV
 | none => .tup [.lit (.slice none 0 0), .lit (.int .i64 5)]
 | some l => .tup [cuesA l, .lit (.int .i64 0)]
theorem under_tellV (n : Nat) (o : Option (List Nat)) : (tellV o).under n := by
 cases o with
 | none => exact ⟨trivial, trivial, trivial⟩
 | some l => exact ⟨under_cuesA n _, trivial, trivial⟩
end Go.Vm

namespace Go.Vm
open Go.Proofs
def erI (vs : List Vers) (L : List Int) (l : List Nat) (n : Nat) : Int := if (n : Int) ∈ L then (after (vs.getD n []) 0 (cuesI l) : Nat) else -1
def plN (vs : List Vers) (n : Nat) (l : List Nat) : List Int := plays (vs.getD n []) 0 (cuesI l)
section
variable {vs : List Vers} {k : Nat} {L : List Int} (hv : ∀ v ∈ vs, VersOk v k) (hv0 : ∀ v ∈ vs, 0 < v.length) (hL : ∀ n : Nat, (n : Int) ∈ L → n < vs.length)
include hv hv0 hL
theorem run_at {n c : Nat} {l : List Nat} (hl : OkL k l) (hc : c < k) (hn : (n : Int) ∈ L) :
  nxI vs c n (erI vs L l n) = erI vs L (l ++ [c]) n ∧ tuI vs c n (erI vs L l n) = (mv (vs.getD n []) (after (vs.getD n []) 0 (cuesI l)) c).2 ∧ plN vs n (l ++ [c]) = plN vs n l ++ [(mv (vs.getD n []) (after (vs.getD n []) 0 (cuesI l)) c).2] := by
 have hlt := hL n hn
 have e : vs.getD n [] = vs[n] := by simp [List.getD, List.getElem?_eq_getElem hlt]
 have hvn := hv _ (List.getElem_mem hlt)
 have h0 := hv0 _ (List.getElem_mem hlt)
 rw [← e] at hvn h0
 have hs := after_lt hvn (cuesI_ok hl) h0
 obtain ⟨x, _, _, _, h4⟩ := mv_at hvn hs hc
 have hp : (0 : Int) ≤ (after (vs.getD n []) 0 (cuesI l) : Nat) := by omega
 unfold erI nxI tuI plN
 rw [if_pos hn, if_pos hn, if_pos hp, if_pos hp, cuesI_snoc, after_snoc, plays_snoc, Int.toNat_natCast, Int.toNat_natCast]
 exact ⟨h4.symm, rfl, rfl⟩
omit hv hv0 hL in
theorem run_not {n c : Nat} {l : List Nat} (hn : (n : Int) ∉ L) : nxI vs c n (erI vs L l n) = erI vs L (l ++ [c]) n := by
 unfold erI nxI
 rw [if_neg hn, if_neg hn]
 rfl
theorem nx_run (n : Nat) {c : Nat} {l : List Nat} (hl : OkL k l) (hc : c < k) : nxI vs c n (erI vs L l n) = erI vs L (l ++ [c]) n := by
 by_cases hn : (n : Int) ∈ L
 ·exact (run_at hv hv0 hL hl hc hn).1
 ·exact run_not hn
omit hv hv0 hL in
theorem er_pos {n : Nat} {l : List Nat} : 0 ≤ erI vs L l n ↔ (n : Int) ∈ L := by
 unfold erI
 by_cases hn : (n : Int) ∈ L
 ·rw [if_pos hn]; exact ⟨fun _ => hn, fun _ => by omega⟩
 ·rw [if_neg hn]; exact ⟨fun h => by omega, fun h => absurd h hn⟩
end
end Go.Vm
