/-
  Join of package cue, by classes and a search by breadth, for books and evenings as told at each, in every heap. Conditions: at each theorem.
-/
import Derived.Test.YtdhdaadoehbopaaGreatDoorVc
import Derived.Test.YtdhdaadoehbopaaGreatDoorCt
import Derived.Test.YtdhdaadoehbopaaGreatDoorCr
import Derived.Test.YtdhdaadoehbopaaGreatDoorCf
import Derived.Test.YtdhdaadoehbopaaGreatDoorCj

namespace Go.Vm
open Go.Proofs
def clMap (b : Book) (cl : Sta → Nat) : Blk := .map (.arr 2) (kE (cE (allP b.vs) cl))
def joiH (b : Book) (cl : Sta → Nat) : List Blk := [bBox b, clMap b cl, .box [.mp 1] 138]
noncomputable def joiL (b : Book) (cl : Sta → Nat) : List (Nat × Blk) := [(0, bBox b), (1, clMap b cl), (2, .box [.mp 1] 138)]
theorem joiH_under (b : Book) (cl : Sta → Nat) : ∀ B ∈ joiH b cl, B.under 3 := fun B hB => by
 rcases List.mem_cons.1 hB with rfl | hB
 ·exact bBox_under _ _
 ·rcases List.mem_cons.1 hB with rfl | hB
  ·exact under_kE _
  ·rw [List.mem_singleton] at hB; subst hB; exact ⟨ltb rfl, trivial⟩
set_option maxRecDepth 100000 in
theorem c_joiNext {b : Book} {cl : Sta → Nat} {k c : Nat} (hv : ∀ v ∈ b.vs, VersOk v k) (hc : c < k) (hn : b.vs.length ≤ 4) {p : Pos} (hp : PosK b.vs p) (H2 : List Blk) :
  ACall Tryz.prog 123 [.agg (posA p), n' c, .ptr 0 0] (joiH b cl ++ H2) (.ret (.agg (posA (nextJ b.vs p c)))) (joiH b cl ++ H2) := by
 obtain ⟨h0, h1, h2, h3⟩ := hp
 refine fn_pre (m := false) (fn := Tryz.f123) (c := (Tryz.f123.body).getD .skip) (t0 := ofL (joiL b cl)) (n0 := 3) mixed (by kernel_rfl) (by kernel_rfl) (of_decide_eq_true (by kernel_rfl)) (HT.full (l := joiL b cl) ⟨rfl, rfl, rfl, trivial⟩ rfl) ?_ (joiH_under b cl) rfl ?_ H2
 ·exact ⟨under_posA 3 _, trivial, ltb rfl, trivial⟩
 refine CallG.pure _ (c_posAfter hv hc hn h0 h1 h2 h3 _ _ _ _ _ _) ?_
 exact ⟨.inl rfl, leb rfl, FinF.mk _ rfl rfl rfl⟩
def okJ (cl : Sta → Nat) (a b : Nat) (p q : Int) : Bool := !(decide (0 ≤ p) && decide (0 ≤ q)) || decide (cl (a, p.toNat) = cl (b, q.toNat))
def jkB (cl : Sta → Nat) (p0 p1 p2 p3 : Int) (k : Nat) : Bool :=
 (decide (k ≤ 0) || okJ cl 1 0 p1 p0) && ((decide (k ≤ 1) || okJ cl 2 0 p2 p0) && ((decide (k ≤ 2) || okJ cl 2 1 p2 p1) && ((decide (k ≤ 3) || okJ cl 3 0 p3 p0) && ((decide (k ≤ 4) || okJ cl 3 1 p3 p1) && (decide (k ≤ 5) || okJ cl 3 2 p3 p2)))))
noncomputable def jdB (st : LoopState) : Blk := lpB Tryz.f124 st [(1, .ptr 2 0), (2, .ptr 3 0), (3, .ptr 4 0), (7, .fn (.func 175) [] [.ptr 5 0])] 6
theorem under_jdB (st : LoopState) : (jdB st).under 8 := under_lpB ⟨ltb rfl, ltb rfl, ltb rfl, ⟨trivial, ltb rfl, trivial⟩, trivial⟩ (ltb rfl)
noncomputable def jdL (b : Book) (cl : Sta → Nat) (p0 p1 p2 p3 : Int) (m0 m1 m2 m3 m4 m5 : Bool) (st : LoopState) : List (Nat × Blk) :=
 joiL b cl ++ [(3, .box (posC p0 p1 p2 p3 m0 m1 m2 m3 m4 m5) 130), (4, .box [.lit (.bool false)] 4), (5, .box (posC p0 p1 p2 p3 m0 m1 m2 m3 m4 m5) 130), (6, .defd), (7, jdB st)]
theorem cl_pos {vs : List Vers} {cl : Sta → Nat} {n : Nat} {p : Int} (h : PosOk vs n p) (h0 : 0 ≤ p) : lookI (cE (allP vs) cl) [((n : Nat) : Int), p] = some ((cl (n, p.toNat) : Nat) : Int) := by
 rcases h with rfl | ⟨_, h2, h3⟩
 ·omega
 ·have e : p = ((p.toNat : Nat) : Int) := by omega
  rw [e, Int.toNat_natCast]
  refine cE_look (allP_mem.2 ⟨h2, ?_⟩)
  show p.toNat < (vs.getD n []).length
  omega
theorem key_pos {vs : List Vers} (hs : Small vs) {n : Nat} {p : Int} (hn : n ≤ 3) (h : PosOk vs n p) : ∀ x ∈ [((n : Nat) : Int), p], -1 ≤ x ∧ x ≤ 1000 := fun x hx => by
 have := h.small hs
 rcases List.mem_cons.1 hx with h1 | h1
 ·omega
 ·rw [List.mem_singleton] at h1
  omega
set_option maxHeartbeats 8000000 in
set_option maxRecDepth 100000 in
theorem c_joiDone {b : Book} {cl : Sta → Nat} (hs : Small b.vs) {p0 p1 p2 p3 : Int} (h0 : PosOk b.vs 0 p0) (h1 : PosOk b.vs 1 p1) (h2 : PosOk b.vs 2 p2) (h3 : PosOk b.vs 3 p3) (m0 m1 m2 m3 m4 m5 : Bool) (H2 : List Blk) :
  ACall Tryz.prog 124 [.agg (posC p0 p1 p2 p3 m0 m1 m2 m3 m4 m5), .ptr 2 0] (joiH b cl ++ H2) (.ret (nb (jkB cl p0 p1 p2 p3 6))) (joiH b cl ++ H2) := by
 refine fn_preM (m := false) (fn := Tryz.f124) (c := (Tryz.f124.body).getD .skip) (t0 := ofL (joiL b cl)) (n0 := 3) mixed (by kernel_rfl) (by kernel_rfl) (of_decide_eq_true (by kernel_rfl)) (HT.full (l := joiL b cl) ⟨rfl, rfl, rfl, trivial⟩ rfl) ?_ (joiH_under b cl) rfl ?_ H2
 ·exact ⟨under_posC 3 _ _ _ _ _ _ _ _ _ _, ltb rfl, trivial⟩
 ·refine CallG.inlineP (m := false) (fn := Tryz.f125) (c := (Tryz.f125.body).getD .skip) mixed (by kernel_rfl) (by kernel_rfl) (of_decide_eq_true (by kernel_rfl)) ?_
  refine .inl ⟨.inl rfl, _, rfl, rfl, ?_⟩
  refine RangeG.fresh (n0 := 6) [(1, .ptr 2 0), (2, .ptr 3 0), (3, .ptr 4 0), (7, .fn (.func 175) [] [.ptr 5 0])] ((jdL b cl p0 p1 p2 p3 m0 m1 m2 m3 m4 m5 .ready).take 6) rfl ?_ ?_ ?_
  ·exact ⟨⟨_, rfl, Weak.refl _ _⟩, ⟨_, rfl, Weak.refl _ _⟩, ⟨_, rfl, Weak.refl _ _⟩, ⟨_, rfl, Weak.refl _ _⟩, trivial⟩
  ·exact ⟨bk rfl rfl, bk rfl rfl, bk rfl rfl, bk rfl rfl, bk rfl rfl, bk rfl rfl, trivial⟩
  refine RangeG.outer (f := 175) (first := []) (captured := [.ptr 5 0]) rfl rfl rfl ?_
  refine CallG.inlineP (m := false) (fn := Tryz.f175) (c := (Tryz.f175.body).getD .skip) mixed (by kernel_rfl) (by kernel_rfl) (of_decide_eq_true (by kernel_rfl)) ?_
  refine LoopG.at (n0 := 8) rfl (loop_up mixed (m := false) (fun a => [(0, .yld 7), (1, .ptr 5 0), (3, n' (kk a : Nat)), (6, n' a)]) (fun _ => jdL b cl p0 p1 p2 p3 m0 m1 m2 m3 m4 m5 .ready) (fun a => jkB cl p0 p1 p2 p3 (kk a) = true) 4 4 (leb rfl) rfl ?_ ?_ ?_)
  ·exact ⟨wp rfl (ltb rfl), wp rfl (ltb rfl), wp rfl trivial, wp rfl trivial, trivial⟩
  ·exact ⟨bk rfl rfl, bk rfl rfl, bk rfl rfl, bk rfl rfl, bk rfl rfl, bk rfl rfl, bk rfl rfl, bk rfl rfl, trivial⟩
  ·intro a ha hI
   have ha4 : a = 0 ∨ a = 1 ∨ a = 2 ∨ a = 3 ∨ a = 4 := by omega
   rcases ha4 with rfl | rfl | rfl | rfl | rfl
   ·refine If.mk (fun _ => ?_) (fun h => absurd (by decide) h)
    refine ifY ?_
    refine LoopG.at (n0 := 8) rfl (loop_up mixed (m := false) (fun r => [(0, .yld 7), (1, .ptr 5 0), (3, n' (kk 0 + r : Nat)), (4, n' (0 : Nat)), (6, n' (0 : Nat)), (9, n' (0 : Nat)), (10, n' r)]) (fun _ => jdL b cl p0 p1 p2 p3 m0 m1 m2 m3 m4 m5 .ready) (fun r => jkB cl p0 p1 p2 p3 (kk 0 + r) = true) 0 4 (leb rfl) hI ?_ ?_ ?_)
    ·exact ⟨wp rfl (ltb rfl), wp rfl (ltb rfl), wp rfl trivial, wp rfl trivial, wp rfl trivial, wp rfl trivial, wp rfl trivial, trivial⟩
    ·exact ⟨bk rfl rfl, bk rfl rfl, bk rfl rfl, bk rfl rfl, bk rfl rfl, bk rfl rfl, bk rfl rfl, bk rfl rfl, trivial⟩
    ·intro r hr hJ
     obtain rfl : r = 0 := by omega
     refine If.mk (fun h => absurd h (by decide)) (fun _ => ?_)
     refine ifN ?_
     refine ⟨leb rfl, ?_⟩
     refine Side.mk (fits64 (by omega)) ?_
     refine ⟨leb rfl, rfl, by omega, hJ, ⟨wp rfl (ltb rfl), wp rfl (ltb rfl), wp rfl trivial, wp rfl trivial, trivial⟩, ?_, ?_⟩
     ·exact ⟨bk rfl rfl, bk rfl rfl, bk rfl rfl, bk rfl rfl, bk rfl rfl, bk rfl rfl, bk rfl rfl, bk rfl rfl, trivial⟩
     ·exact ⟨⟨_, rfl, trivial, trivial⟩, ⟨_, rfl, under_posC _ _ _ _ _ _ _ _ _ _ _⟩, ⟨_, rfl, trivial⟩, ⟨jdB .ready, rfl, under_jdB _⟩, trivial⟩
   ·refine If.mk (fun _ => ?_) (fun h => absurd (by decide) h)
    refine ifY ?_
    refine LoopG.at (n0 := 8) rfl (loop_up mixed (m := false) (fun r => [(0, .yld 7), (1, .ptr 5 0), (3, n' (kk 1 + r : Nat)), (4, n' (1 : Nat)), (6, n' (1 : Nat)), (9, n' (1 : Nat)), (10, n' r)]) (fun _ => jdL b cl p0 p1 p2 p3 m0 m1 m2 m3 m4 m5 .ready) (fun r => jkB cl p0 p1 p2 p3 (kk 1 + r) = true) 1 4 (leb rfl) hI ?_ ?_ ?_)
    ·exact ⟨wp rfl (ltb rfl), wp rfl (ltb rfl), wp rfl trivial, wp rfl trivial, wp rfl trivial, wp rfl trivial, wp rfl trivial, trivial⟩
    ·exact ⟨bk rfl rfl, bk rfl rfl, bk rfl rfl, bk rfl rfl, bk rfl rfl, bk rfl rfl, bk rfl rfl, bk rfl rfl, trivial⟩
    ·intro r hr hJ
     have hr4 : r = 0 ∨ r = 1 := by omega
     rcases hr4 with rfl | rfl
     case' inl =>
      refine If.mk (fun _ => ?_) (fun h => absurd (by decide) h)
      refine ifY ?_
      refine If.mk (fun ga => ?_) (fun ga => ?_)
      case' refine_2 => have e0 : okJ cl 1 0 p1 p0 = true := by simp [okJ, ga]
      case' refine_1 =>
       refine If.mk (fun gb => ?_) (fun gb => ?_)
       case' refine_2 => have e0 : okJ cl 1 0 p1 p0 = true := by simp [okJ, gb]
       case' refine_1 =>
        refine RoundG.fresh (n0 := 8) (jdL b cl p0 p1 p2 p3 m0 m1 m2 m3 m4 m5 .ready) rfl ?_ ?_
        ·exact ⟨bk rfl rfl, bk rfl rfl, bk rfl rfl, bk rfl rfl, bk rfl rfl, bk rfl rfl, bk rfl rfl, bk rfl rfl, trivial⟩
        refine RoundG.introF (m := false) mixed rfl rfl (by decide) ?_
        refine ⟨rfl, _, rfl, rfl, [(1, .ptr 2 0), (2, .ptr 3 0), (3, .ptr 4 0), (5, .ptr 8 0)], jdL b cl p0 p1 p2 p3 m0 m1 m2 m3 m4 m5 .busy ++ [(8, .box [n' (1 : Nat), n' (0 : Nat)] 141)], 9, rfl, ?_, ?_, ?_⟩
        ·exact ⟨⟨_, rfl, Weak.refl _ _⟩, ⟨_, rfl, Weak.refl _ _⟩, ⟨_, rfl, Weak.refl _ _⟩, ⟨_, rfl, Weak.refl _ _⟩, trivial⟩
        ·exact ⟨bk rfl rfl, bk rfl rfl, bk rfl rfl, bk rfl rfl, bk rfl rfl, bk rfl rfl, bk rfl rfl, bk rfl rfl, bk rfl rfl, trivial⟩
        refine Ex.mk _ (aop_lookK (kt := 141) (et := 3) (key := [((1 : Nat) : Int), p1]) rfl rfl rfl rfl (by kernel_rfl) (by kernel_rfl) rfl (key_pos hs (by decide) h1) (cl_pos h1 ga)) ?_
        refine Ex.mk _ (aop_lookK (kt := 141) (et := 3) (key := [((0 : Nat) : Int), p0]) rfl rfl rfl rfl (by kernel_rfl) (by kernel_rfl) rfl (key_pos hs (by decide) h0) (cl_pos h0 gb)) ?_
        refine If.mk (fun he => ?_) (fun he => ?_)
        case' refine_1 =>
         have he' : cl (1, (p1).toNat) = cl (0, (p0).toNat) := Int.ofNat_inj.1 he
         refine ifN ?_
         refine ⟨_, _, rfl, rfl, ?_⟩
         have e0 : okJ cl 1 0 p1 p0 = true := by simp [okJ, he']
        case' refine_2 =>
         have he' : ¬ cl (1, (p1).toNat) = cl (0, (p0).toNat) := fun h9 => he (by rw [h9])
         refine ifY ?_
         refine ⟨_, _, rfl, rfl, ?_⟩
         refine ifY ?_
         refine ⟨leb rfl, leb rfl, .inl ⟨.inl rfl, _, rfl, rfl, _, _, rfl, (fun e => by cases e), rfl, .inl rfl, leb rfl, FinP.mk _ rfl rfl ?_⟩⟩
         have e0 : okJ cl 1 0 p1 p0 = false := by simp [okJ, ga, gb, he']
         show AV.lit (.bool false) = nb (jkB cl p0 p1 p2 p3 6)
         simp [jkB, e0, nb]
     case' inr =>
      refine If.mk (fun h => absurd h (by decide)) (fun _ => ?_)
      refine ifN ?_
      refine ⟨leb rfl, ?_⟩
      refine Side.mk (fits64 (by omega)) ?_
      refine ⟨leb rfl, rfl, by omega, hJ, ⟨wp rfl (ltb rfl), wp rfl (ltb rfl), wp rfl trivial, wp rfl trivial, trivial⟩, ?_, ?_⟩
      ·exact ⟨bk rfl rfl, bk rfl rfl, bk rfl rfl, bk rfl rfl, bk rfl rfl, bk rfl rfl, bk rfl rfl, bk rfl rfl, trivial⟩
      ·exact ⟨⟨_, rfl, trivial, trivial⟩, ⟨_, rfl, under_posC _ _ _ _ _ _ _ _ _ _ _⟩, ⟨_, rfl, trivial⟩, ⟨jdB .ready, rfl, under_jdB _⟩, trivial⟩
     all_goals
      refine ifN ?_
      refine Side.mk (by unfold fitsK; kernel_rfl) ?_
      refine Side.mk (by unfold fitsK; kernel_rfl) ?_
      refine ⟨leb rfl, rfl, by omega, ?_, ⟨wp rfl (ltb rfl), wp rfl (ltb rfl), wp rfl trivial, wp rfl trivial, wp rfl trivial, wp rfl trivial, wp rfl trivial, trivial⟩, ?_, ?_⟩
      ·have hJ' := hJ
       simp [kk, jkB, e0] at hJ' ⊢
       try simp [hJ']
      ·exact ⟨bk rfl rfl, bk rfl rfl, bk rfl rfl, bk rfl rfl, bk rfl rfl, bk rfl rfl, bk rfl rfl, bk rfl rfl, trivial⟩
      ·first | trivial | exact ⟨⟨jdB .ready, rfl, under_jdB _⟩, trivial⟩
   ·refine If.mk (fun _ => ?_) (fun h => absurd (by decide) h)
    refine ifY ?_
    refine LoopG.at (n0 := 8) rfl (loop_up mixed (m := false) (fun r => [(0, .yld 7), (1, .ptr 5 0), (3, n' (kk 2 + r : Nat)), (4, n' (2 : Nat)), (6, n' (2 : Nat)), (9, n' (2 : Nat)), (10, n' r)]) (fun _ => jdL b cl p0 p1 p2 p3 m0 m1 m2 m3 m4 m5 .ready) (fun r => jkB cl p0 p1 p2 p3 (kk 2 + r) = true) 2 4 (leb rfl) hI ?_ ?_ ?_)
    ·exact ⟨wp rfl (ltb rfl), wp rfl (ltb rfl), wp rfl trivial, wp rfl trivial, wp rfl trivial, wp rfl trivial, wp rfl trivial, trivial⟩
    ·exact ⟨bk rfl rfl, bk rfl rfl, bk rfl rfl, bk rfl rfl, bk rfl rfl, bk rfl rfl, bk rfl rfl, bk rfl rfl, trivial⟩
    ·intro r hr hJ
     have hr4 : r = 0 ∨ r = 1 ∨ r = 2 := by omega
     rcases hr4 with rfl | rfl | rfl
     case' inl =>
      refine If.mk (fun _ => ?_) (fun h => absurd (by decide) h)
      refine ifY ?_
      refine If.mk (fun ga => ?_) (fun ga => ?_)
      case' refine_2 => have e0 : okJ cl 2 0 p2 p0 = true := by simp [okJ, ga]
      case' refine_1 =>
       refine If.mk (fun gb => ?_) (fun gb => ?_)
       case' refine_2 => have e0 : okJ cl 2 0 p2 p0 = true := by simp [okJ, gb]
       case' refine_1 =>
        refine RoundG.fresh (n0 := 8) (jdL b cl p0 p1 p2 p3 m0 m1 m2 m3 m4 m5 .ready) rfl ?_ ?_
        ·exact ⟨bk rfl rfl, bk rfl rfl, bk rfl rfl, bk rfl rfl, bk rfl rfl, bk rfl rfl, bk rfl rfl, bk rfl rfl, trivial⟩
        refine RoundG.introF (m := false) mixed rfl rfl (by decide) ?_
        refine ⟨rfl, _, rfl, rfl, [(1, .ptr 2 0), (2, .ptr 3 0), (3, .ptr 4 0), (5, .ptr 8 0)], jdL b cl p0 p1 p2 p3 m0 m1 m2 m3 m4 m5 .busy ++ [(8, .box [n' (2 : Nat), n' (0 : Nat)] 141)], 9, rfl, ?_, ?_, ?_⟩
        ·exact ⟨⟨_, rfl, Weak.refl _ _⟩, ⟨_, rfl, Weak.refl _ _⟩, ⟨_, rfl, Weak.refl _ _⟩, ⟨_, rfl, Weak.refl _ _⟩, trivial⟩
        ·exact ⟨bk rfl rfl, bk rfl rfl, bk rfl rfl, bk rfl rfl, bk rfl rfl, bk rfl rfl, bk rfl rfl, bk rfl rfl, bk rfl rfl, trivial⟩
        refine Ex.mk _ (aop_lookK (kt := 141) (et := 3) (key := [((2 : Nat) : Int), p2]) rfl rfl rfl rfl (by kernel_rfl) (by kernel_rfl) rfl (key_pos hs (by decide) h2) (cl_pos h2 ga)) ?_
        refine Ex.mk _ (aop_lookK (kt := 141) (et := 3) (key := [((0 : Nat) : Int), p0]) rfl rfl rfl rfl (by kernel_rfl) (by kernel_rfl) rfl (key_pos hs (by decide) h0) (cl_pos h0 gb)) ?_
        refine If.mk (fun he => ?_) (fun he => ?_)
        case' refine_1 =>
         have he' : cl (2, (p2).toNat) = cl (0, (p0).toNat) := Int.ofNat_inj.1 he
         refine ifN ?_
         refine ⟨_, _, rfl, rfl, ?_⟩
         have e0 : okJ cl 2 0 p2 p0 = true := by simp [okJ, he']
        case' refine_2 =>
         have he' : ¬ cl (2, (p2).toNat) = cl (0, (p0).toNat) := fun h9 => he (by rw [h9])
         refine ifY ?_
         refine ⟨_, _, rfl, rfl, ?_⟩
         refine ifY ?_
         refine ⟨leb rfl, leb rfl, .inl ⟨.inl rfl, _, rfl, rfl, _, _, rfl, (fun e => by cases e), rfl, .inl rfl, leb rfl, FinP.mk _ rfl rfl ?_⟩⟩
         have e0 : okJ cl 2 0 p2 p0 = false := by simp [okJ, ga, gb, he']
         show AV.lit (.bool false) = nb (jkB cl p0 p1 p2 p3 6)
         simp [jkB, e0, nb]
     case' inr.inl =>
      refine If.mk (fun _ => ?_) (fun h => absurd (by decide) h)
      refine ifY ?_
      refine If.mk (fun ga => ?_) (fun ga => ?_)
      case' refine_2 => have e0 : okJ cl 2 1 p2 p1 = true := by simp [okJ, ga]
      case' refine_1 =>
       refine If.mk (fun gb => ?_) (fun gb => ?_)
       case' refine_2 => have e0 : okJ cl 2 1 p2 p1 = true := by simp [okJ, gb]
       case' refine_1 =>
        refine RoundG.fresh (n0 := 8) (jdL b cl p0 p1 p2 p3 m0 m1 m2 m3 m4 m5 .ready) rfl ?_ ?_
        ·exact ⟨bk rfl rfl, bk rfl rfl, bk rfl rfl, bk rfl rfl, bk rfl rfl, bk rfl rfl, bk rfl rfl, bk rfl rfl, trivial⟩
        refine RoundG.introF (m := false) mixed rfl rfl (by decide) ?_
        refine ⟨rfl, _, rfl, rfl, [(1, .ptr 2 0), (2, .ptr 3 0), (3, .ptr 4 0), (5, .ptr 8 0)], jdL b cl p0 p1 p2 p3 m0 m1 m2 m3 m4 m5 .busy ++ [(8, .box [n' (2 : Nat), n' (1 : Nat)] 141)], 9, rfl, ?_, ?_, ?_⟩
        ·exact ⟨⟨_, rfl, Weak.refl _ _⟩, ⟨_, rfl, Weak.refl _ _⟩, ⟨_, rfl, Weak.refl _ _⟩, ⟨_, rfl, Weak.refl _ _⟩, trivial⟩
        ·exact ⟨bk rfl rfl, bk rfl rfl, bk rfl rfl, bk rfl rfl, bk rfl rfl, bk rfl rfl, bk rfl rfl, bk rfl rfl, bk rfl rfl, trivial⟩
        refine Ex.mk _ (aop_lookK (kt := 141) (et := 3) (key := [((2 : Nat) : Int), p2]) rfl rfl rfl rfl (by kernel_rfl) (by kernel_rfl) rfl (key_pos hs (by decide) h2) (cl_pos h2 ga)) ?_
        refine Ex.mk _ (aop_lookK (kt := 141) (et := 3) (key := [((1 : Nat) : Int), p1]) rfl rfl rfl rfl (by kernel_rfl) (by kernel_rfl) rfl (key_pos hs (by decide) h1) (cl_pos h1 gb)) ?_
        refine If.mk (fun he => ?_) (fun he => ?_)
        case' refine_1 =>
         have he' : cl (2, (p2).toNat) = cl (1, (p1).toNat) := Int.ofNat_inj.1 he
         refine ifN ?_
         refine ⟨_, _, rfl, rfl, ?_⟩
         have e0 : okJ cl 2 1 p2 p1 = true := by simp [okJ, he']
        case' refine_2 =>
         have he' : ¬ cl (2, (p2).toNat) = cl (1, (p1).toNat) := fun h9 => he (by rw [h9])
         refine ifY ?_
         refine ⟨_, _, rfl, rfl, ?_⟩
         refine ifY ?_
         refine ⟨leb rfl, leb rfl, .inl ⟨.inl rfl, _, rfl, rfl, _, _, rfl, (fun e => by cases e), rfl, .inl rfl, leb rfl, FinP.mk _ rfl rfl ?_⟩⟩
         have e0 : okJ cl 2 1 p2 p1 = false := by simp [okJ, ga, gb, he']
         show AV.lit (.bool false) = nb (jkB cl p0 p1 p2 p3 6)
         simp [jkB, e0, nb]
     case' inr.inr =>
      refine If.mk (fun h => absurd h (by decide)) (fun _ => ?_)
      refine ifN ?_
      refine ⟨leb rfl, ?_⟩
      refine Side.mk (fits64 (by omega)) ?_
      refine ⟨leb rfl, rfl, by omega, hJ, ⟨wp rfl (ltb rfl), wp rfl (ltb rfl), wp rfl trivial, wp rfl trivial, trivial⟩, ?_, ?_⟩
      ·exact ⟨bk rfl rfl, bk rfl rfl, bk rfl rfl, bk rfl rfl, bk rfl rfl, bk rfl rfl, bk rfl rfl, bk rfl rfl, trivial⟩
      ·exact ⟨⟨_, rfl, trivial, trivial⟩, ⟨_, rfl, under_posC _ _ _ _ _ _ _ _ _ _ _⟩, ⟨_, rfl, trivial⟩, ⟨jdB .ready, rfl, under_jdB _⟩, trivial⟩
     all_goals
      refine ifN ?_
      refine Side.mk (by unfold fitsK; kernel_rfl) ?_
      refine Side.mk (by unfold fitsK; kernel_rfl) ?_
      refine ⟨leb rfl, rfl, by omega, ?_, ⟨wp rfl (ltb rfl), wp rfl (ltb rfl), wp rfl trivial, wp rfl trivial, wp rfl trivial, wp rfl trivial, wp rfl trivial, trivial⟩, ?_, ?_⟩
      ·have hJ' := hJ
       simp [kk, jkB, e0] at hJ' ⊢
       try simp [hJ']
      ·exact ⟨bk rfl rfl, bk rfl rfl, bk rfl rfl, bk rfl rfl, bk rfl rfl, bk rfl rfl, bk rfl rfl, bk rfl rfl, trivial⟩
      ·first | trivial | exact ⟨⟨jdB .ready, rfl, under_jdB _⟩, trivial⟩
   ·refine If.mk (fun _ => ?_) (fun h => absurd (by decide) h)
    refine ifY ?_
    refine LoopG.at (n0 := 8) rfl (loop_up mixed (m := false) (fun r => [(0, .yld 7), (1, .ptr 5 0), (3, n' (kk 3 + r : Nat)), (4, n' (3 : Nat)), (6, n' (3 : Nat)), (9, n' (3 : Nat)), (10, n' r)]) (fun _ => jdL b cl p0 p1 p2 p3 m0 m1 m2 m3 m4 m5 .ready) (fun r => jkB cl p0 p1 p2 p3 (kk 3 + r) = true) 3 4 (leb rfl) hI ?_ ?_ ?_)
    ·exact ⟨wp rfl (ltb rfl), wp rfl (ltb rfl), wp rfl trivial, wp rfl trivial, wp rfl trivial, wp rfl trivial, wp rfl trivial, trivial⟩
    ·exact ⟨bk rfl rfl, bk rfl rfl, bk rfl rfl, bk rfl rfl, bk rfl rfl, bk rfl rfl, bk rfl rfl, bk rfl rfl, trivial⟩
    ·intro r hr hJ
     have hr4 : r = 0 ∨ r = 1 ∨ r = 2 ∨ r = 3 := by omega
     rcases hr4 with rfl | rfl | rfl | rfl
     case' inl =>
      refine If.mk (fun _ => ?_) (fun h => absurd (by decide) h)
      refine ifY ?_
      refine If.mk (fun ga => ?_) (fun ga => ?_)
      case' refine_2 => have e0 : okJ cl 3 0 p3 p0 = true := by simp [okJ, ga]
      case' refine_1 =>
       refine If.mk (fun gb => ?_) (fun gb => ?_)
       case' refine_2 => have e0 : okJ cl 3 0 p3 p0 = true := by simp [okJ, gb]
       case' refine_1 =>
        refine RoundG.fresh (n0 := 8) (jdL b cl p0 p1 p2 p3 m0 m1 m2 m3 m4 m5 .ready) rfl ?_ ?_
        ·exact ⟨bk rfl rfl, bk rfl rfl, bk rfl rfl, bk rfl rfl, bk rfl rfl, bk rfl rfl, bk rfl rfl, bk rfl rfl, trivial⟩
        refine RoundG.introF (m := false) mixed rfl rfl (by decide) ?_
        refine ⟨rfl, _, rfl, rfl, [(1, .ptr 2 0), (2, .ptr 3 0), (3, .ptr 4 0), (5, .ptr 8 0)], jdL b cl p0 p1 p2 p3 m0 m1 m2 m3 m4 m5 .busy ++ [(8, .box [n' (3 : Nat), n' (0 : Nat)] 141)], 9, rfl, ?_, ?_, ?_⟩
        ·exact ⟨⟨_, rfl, Weak.refl _ _⟩, ⟨_, rfl, Weak.refl _ _⟩, ⟨_, rfl, Weak.refl _ _⟩, ⟨_, rfl, Weak.refl _ _⟩, trivial⟩
        ·exact ⟨bk rfl rfl, bk rfl rfl, bk rfl rfl, bk rfl rfl, bk rfl rfl, bk rfl rfl, bk rfl rfl, bk rfl rfl, bk rfl rfl, trivial⟩
        refine Ex.mk _ (aop_lookK (kt := 141) (et := 3) (key := [((3 : Nat) : Int), p3]) rfl rfl rfl rfl (by kernel_rfl) (by kernel_rfl) rfl (key_pos hs (by decide) h3) (cl_pos h3 ga)) ?_
        refine Ex.mk _ (aop_lookK (kt := 141) (et := 3) (key := [((0 : Nat) : Int), p0]) rfl rfl rfl rfl (by kernel_rfl) (by kernel_rfl) rfl (key_pos hs (by decide) h0) (cl_pos h0 gb)) ?_
        refine If.mk (fun he => ?_) (fun he => ?_)
        case' refine_1 =>
         have he' : cl (3, (p3).toNat) = cl (0, (p0).toNat) := Int.ofNat_inj.1 he
         refine ifN ?_
         refine ⟨_, _, rfl, rfl, ?_⟩
         have e0 : okJ cl 3 0 p3 p0 = true := by simp [okJ, he']
        case' refine_2 =>
         have he' : ¬ cl (3, (p3).toNat) = cl (0, (p0).toNat) := fun h9 => he (by rw [h9])
         refine ifY ?_
         refine ⟨_, _, rfl, rfl, ?_⟩
         refine ifY ?_
         refine ⟨leb rfl, leb rfl, .inl ⟨.inl rfl, _, rfl, rfl, _, _, rfl, (fun e => by cases e), rfl, .inl rfl, leb rfl, FinP.mk _ rfl rfl ?_⟩⟩
         have e0 : okJ cl 3 0 p3 p0 = false := by simp [okJ, ga, gb, he']
         show AV.lit (.bool false) = nb (jkB cl p0 p1 p2 p3 6)
         simp [jkB, e0, nb]
     case' inr.inl =>
      refine If.mk (fun _ => ?_) (fun h => absurd (by decide) h)
      refine ifY ?_
      refine If.mk (fun ga => ?_) (fun ga => ?_)
      case' refine_2 => have e0 : okJ cl 3 1 p3 p1 = true := by simp [okJ, ga]
      case' refine_1 =>
       refine If.mk (fun gb => ?_) (fun gb => ?_)
       case' refine_2 => have e0 : okJ cl 3 1 p3 p1 = true := by simp [okJ, gb]
       case' refine_1 =>
        refine RoundG.fresh (n0 := 8) (jdL b cl p0 p1 p2 p3 m0 m1 m2 m3 m4 m5 .ready) rfl ?_ ?_
        ·exact ⟨bk rfl rfl, bk rfl rfl, bk rfl rfl, bk rfl rfl, bk rfl rfl, bk rfl rfl, bk rfl rfl, bk rfl rfl, trivial⟩
        refine RoundG.introF (m := false) mixed rfl rfl (by decide) ?_
        refine ⟨rfl, _, rfl, rfl, [(1, .ptr 2 0), (2, .ptr 3 0), (3, .ptr 4 0), (5, .ptr 8 0)], jdL b cl p0 p1 p2 p3 m0 m1 m2 m3 m4 m5 .busy ++ [(8, .box [n' (3 : Nat), n' (1 : Nat)] 141)], 9, rfl, ?_, ?_, ?_⟩
        ·exact ⟨⟨_, rfl, Weak.refl _ _⟩, ⟨_, rfl, Weak.refl _ _⟩, ⟨_, rfl, Weak.refl _ _⟩, ⟨_, rfl, Weak.refl _ _⟩, trivial⟩
        ·exact ⟨bk rfl rfl, bk rfl rfl, bk rfl rfl, bk rfl rfl, bk rfl rfl, bk rfl rfl, bk rfl rfl, bk rfl rfl, bk rfl rfl, trivial⟩
        refine Ex.mk _ (aop_lookK (kt := 141) (et := 3) (key := [((3 : Nat) : Int), p3]) rfl rfl rfl rfl (by kernel_rfl) (by kernel_rfl) rfl (key_pos hs (by decide) h3) (cl_pos h3 ga)) ?_
        refine Ex.mk _ (aop_lookK (kt := 141) (et := 3) (key := [((1 : Nat) : Int), p1]) rfl rfl rfl rfl (by kernel_rfl) (by kernel_rfl) rfl (key_pos hs (by decide) h1) (cl_pos h1 gb)) ?_
        refine If.mk (fun he => ?_) (fun he => ?_)
        case' refine_1 =>
         have he' : cl (3, (p3).toNat) = cl (1, (p1).toNat) := Int.ofNat_inj.1 he
         refine ifN ?_
         refine ⟨_, _, rfl, rfl, ?_⟩
         have e0 : okJ cl 3 1 p3 p1 = true := by simp [okJ, he']
        case' refine_2 =>
         have he' : ¬ cl (3, (p3).toNat) = cl (1, (p1).toNat) := fun h9 => he (by rw [h9])
         refine ifY ?_
         refine ⟨_, _, rfl, rfl, ?_⟩
         refine ifY ?_
         refine ⟨leb rfl, leb rfl, .inl ⟨.inl rfl, _, rfl, rfl, _, _, rfl, (fun e => by cases e), rfl, .inl rfl, leb rfl, FinP.mk _ rfl rfl ?_⟩⟩
         have e0 : okJ cl 3 1 p3 p1 = false := by simp [okJ, ga, gb, he']
         show AV.lit (.bool false) = nb (jkB cl p0 p1 p2 p3 6)
         simp [jkB, e0, nb]
     case' inr.inr.inl =>
      refine If.mk (fun _ => ?_) (fun h => absurd (by decide) h)
      refine ifY ?_
      refine If.mk (fun ga => ?_) (fun ga => ?_)
      case' refine_2 => have e0 : okJ cl 3 2 p3 p2 = true := by simp [okJ, ga]
      case' refine_1 =>
       refine If.mk (fun gb => ?_) (fun gb => ?_)
       case' refine_2 => have e0 : okJ cl 3 2 p3 p2 = true := by simp [okJ, gb]
       case' refine_1 =>
        refine RoundG.fresh (n0 := 8) (jdL b cl p0 p1 p2 p3 m0 m1 m2 m3 m4 m5 .ready) rfl ?_ ?_
        ·exact ⟨bk rfl rfl, bk rfl rfl, bk rfl rfl, bk rfl rfl, bk rfl rfl, bk rfl rfl, bk rfl rfl, bk rfl rfl, trivial⟩
        refine RoundG.introF (m := false) mixed rfl rfl (by decide) ?_
        refine ⟨rfl, _, rfl, rfl, [(1, .ptr 2 0), (2, .ptr 3 0), (3, .ptr 4 0), (5, .ptr 8 0)], jdL b cl p0 p1 p2 p3 m0 m1 m2 m3 m4 m5 .busy ++ [(8, .box [n' (3 : Nat), n' (2 : Nat)] 141)], 9, rfl, ?_, ?_, ?_⟩
        ·exact ⟨⟨_, rfl, Weak.refl _ _⟩, ⟨_, rfl, Weak.refl _ _⟩, ⟨_, rfl, Weak.refl _ _⟩, ⟨_, rfl, Weak.refl _ _⟩, trivial⟩
        ·exact ⟨bk rfl rfl, bk rfl rfl, bk rfl rfl, bk rfl rfl, bk rfl rfl, bk rfl rfl, bk rfl rfl, bk rfl rfl, bk rfl rfl, trivial⟩
        refine Ex.mk _ (aop_lookK (kt := 141) (et := 3) (key := [((3 : Nat) : Int), p3]) rfl rfl rfl rfl (by kernel_rfl) (by kernel_rfl) rfl (key_pos hs (by decide) h3) (cl_pos h3 ga)) ?_
        refine Ex.mk _ (aop_lookK (kt := 141) (et := 3) (key := [((2 : Nat) : Int), p2]) rfl rfl rfl rfl (by kernel_rfl) (by kernel_rfl) rfl (key_pos hs (by decide) h2) (cl_pos h2 gb)) ?_
        refine If.mk (fun he => ?_) (fun he => ?_)
        case' refine_1 =>
         have he' : cl (3, (p3).toNat) = cl (2, (p2).toNat) := Int.ofNat_inj.1 he
         refine ifN ?_
         refine ⟨_, _, rfl, rfl, ?_⟩
         have e0 : okJ cl 3 2 p3 p2 = true := by simp [okJ, he']
        case' refine_2 =>
         have he' : ¬ cl (3, (p3).toNat) = cl (2, (p2).toNat) := fun h9 => he (by rw [h9])
         refine ifY ?_
         refine ⟨_, _, rfl, rfl, ?_⟩
         refine ifY ?_
         refine ⟨leb rfl, leb rfl, .inl ⟨.inl rfl, _, rfl, rfl, _, _, rfl, (fun e => by cases e), rfl, .inl rfl, leb rfl, FinP.mk _ rfl rfl ?_⟩⟩
         have e0 : okJ cl 3 2 p3 p2 = false := by simp [okJ, ga, gb, he']
         show AV.lit (.bool false) = nb (jkB cl p0 p1 p2 p3 6)
         simp [jkB, e0, nb]
     case' inr.inr.inr =>
      refine If.mk (fun h => absurd h (by decide)) (fun _ => ?_)
      refine ifN ?_
      refine ⟨leb rfl, ?_⟩
      refine Side.mk (fits64 (by omega)) ?_
      refine ⟨leb rfl, rfl, by omega, hJ, ⟨wp rfl (ltb rfl), wp rfl (ltb rfl), wp rfl trivial, wp rfl trivial, trivial⟩, ?_, ?_⟩
      ·exact ⟨bk rfl rfl, bk rfl rfl, bk rfl rfl, bk rfl rfl, bk rfl rfl, bk rfl rfl, bk rfl rfl, bk rfl rfl, trivial⟩
      ·exact ⟨⟨_, rfl, trivial, trivial⟩, ⟨_, rfl, under_posC _ _ _ _ _ _ _ _ _ _ _⟩, ⟨_, rfl, trivial⟩, ⟨jdB .ready, rfl, under_jdB _⟩, trivial⟩
     all_goals
      refine ifN ?_
      refine Side.mk (by unfold fitsK; kernel_rfl) ?_
      refine Side.mk (by unfold fitsK; kernel_rfl) ?_
      refine ⟨leb rfl, rfl, by omega, ?_, ⟨wp rfl (ltb rfl), wp rfl (ltb rfl), wp rfl trivial, wp rfl trivial, wp rfl trivial, wp rfl trivial, wp rfl trivial, trivial⟩, ?_, ?_⟩
      ·have hJ' := hJ
       simp [kk, jkB, e0] at hJ' ⊢
       try simp [hJ']
      ·exact ⟨bk rfl rfl, bk rfl rfl, bk rfl rfl, bk rfl rfl, bk rfl rfl, bk rfl rfl, bk rfl rfl, bk rfl rfl, trivial⟩
      ·first | trivial | exact ⟨⟨jdB .ready, rfl, under_jdB _⟩, trivial⟩
   ·refine If.mk (fun h => absurd h (by decide)) (fun _ => ?_)
    refine ifN ?_
    refine ⟨leb rfl, ?_⟩
    refine .inl ⟨.inr rfl, _, rfl, rfl, ?_⟩
    refine ⟨_, _, rfl, (fun e => by cases e), rfl, ?_⟩
    refine ⟨.inl rfl, leb rfl, FinP.mk _ rfl rfl ?_⟩
    have hI' : jkB cl p0 p1 p2 p3 6 = true := hI
    rw [hI']
    rfl
end Go.Vm

namespace Go.Vm
open Go.Proofs
theorem HT.first3 {t : Trie Blk} {n : Nat} {H : List Blk} {b : Book} {cl : Sta → Nat} (hH : HT t n H) (hb : Blks (get t) noLo (joiL b cl)) : ∃ H2, H = joiH b cl ++ H2 := by
 have e0 : H.take 3 = hp (joiL b cl) := take_full (l := joiL b cl) ⟨rfl, rfl, rfl, trivial⟩ fun q hq => hH.blk _ _ (hb.mem q hq).1
 exact ⟨H.drop 3, by show H = hp (joiL b cl) ++ H.drop 3; rw [← e0, List.take_append_drop]⟩
abbrev nxJ : AV := .fn (.func 123) [] [.ptr 0 0]
abbrev dnJ : AV := .fn (.func 124) [] [.ptr 2 0]
def doneC (cl : Sta → Nat) (p : Pos) : Bool := jkB cl p.1.1 p.1.2.1 p.1.2.2.1 p.1.2.2.2 6
theorem PosK.nextJ {vs : List Vers} {k c : Nat} (hv : ∀ v ∈ vs, VersOk v k) (hc : c < k) {p : Pos} (h : PosK vs p) : PosK vs (nextJ vs p c) := h.next hv hc
theorem wk_begin5 {t : Trie Blk} {st : Pos} (hr : get t 5 = some (.row 0)) : Weak t (.sl 1 (posA st ++ [.lit (.slice none 0 0)]) .full) (.sl 1 (waysA [(st, [])]) (.own 5 0 6)) := fun n H hH O ι w c h => by
 have h1 := WeakH.fullOwnN (H := H) (r := 5) (len := 1) (sz := 6) (cells := posA st ++ [.lit (.slice none 0 0)]) rfl (hH.blk _ _ hr) O ι w c h
 exact wk_sl (Weaks.snoc (fun H => wk_nil H) (posA st)) O ι w c h1
def stpG (nx : Pos → Nat → Pos) (x : Pos) (l : List Nat) (s : Bf) : Nat → Bf
 | 0 => s
 | r + 1 => if nx x r ∈ (stpG nx x l s r).met then stpG nx x l s r else ⟨(stpG nx x l s r).q ++ [(nx x r, l ++ [r])], (stpG nx x l s r).met ++ [nx x r], (stpG nx x l s r).g + 1⟩
set_option maxHeartbeats 8000000 in
set_option maxRecDepth 100000 in
theorem c_firstJ {b : Book} {cl : Sta → Nat} {k : Nat} (hv : ∀ v ∈ b.vs, VersOk v k) (hk : b.cues = k) (hk4 : k ≤ 4) (hn : b.vs.length ≤ 4) (hs : Small b.vs) {st : Pos} (hst : PosK b.vs st) :
  ∃ v, (∃ o, v = firstV o ∧ Found (nextJ b.vs) (fun p => doneC cl p = true) st k o) ∧ ∀ H2, ACall Tryz.prog 104 [.agg (posA st), n' b.cues, nxJ, dnJ] (joiH b cl ++ H2) (.ret v) (joiH b cl ++ H2) := by
 refine fn_preE (m := false) (fn := Tryz.f104) (c := (Tryz.f104.body).getD .skip) (t0 := ofL (joiL b cl)) (n0 := 3) _ mixed (by kernel_rfl) (by kernel_rfl) (of_decide_eq_true (by kernel_rfl)) (HT.full (l := joiL b cl) ⟨rfl, rfl, rfl, trivial⟩ rfl) ?_ (joiH_under b cl) ?_
 ·exact ⟨under_posA 3 _, trivial, ⟨trivial, ltb rfl, trivial⟩, ⟨trivial, ltb rfl, trivial⟩, trivial⟩
 ·refine Ex.mk _ (aop_update (p := st) (met := []) (id := 4) (.inr rfl) rfl rfl rfl rfl (hst.posS hs) (by simp)) ?_
  refine LoopG.ghost (LoopG.at (n0 := 6) rfl ?_)
  refine loop_r mixed (m := false) (α := { s : Bf // (∃ proc, InvO (nextJ b.vs) (fun p => doneC cl p = true) st k s.q s.met proc) ∧ Bd b.vs s }) (fun a => [(1, n' b.cues), (2, nxJ), (3, dnJ), (10, .mp 4), (11, .sl a.1.q.length (waysA a.1.q) (.own 5 a.1.g 6))]) (fun a => joiL b cl ++ [(4, .map (.arr 5) (metE a.1.met)), (5, .row a.1.g)]) (fun a => a.1.q.length + (40000 - a.1.met.length)) 4
   ⟨⟨[(st, [])], [st], 0⟩, ⟨_, InvO.begin⟩, ⟨by simp, fun p hp => ?_, by simp, fun w hw => ?_⟩⟩ (leb rfl) ?_ ?_ ?_
  ·rw [List.mem_singleton] at hp; subst hp; exact hst
  ·rw [List.mem_singleton] at hw; subst hw; exact ⟨by simp, hst⟩
  ·exact ⟨wp rfl trivial, ⟨_, rfl, Weak.refl _ _, trivial, ltb rfl, trivial⟩, ⟨_, rfl, Weak.refl _ _, trivial, ltb rfl, trivial⟩, wp rfl (ltb rfl), ⟨_, rfl, wk_begin5 rfl, under_waysA _ _, ltb rfl⟩, trivial⟩
  ·exact ⟨bk rfl rfl, bk rfl rfl, bk rfl rfl, bk rfl rfl, bk rfl rfl, trivial⟩
  ·rintro ⟨⟨q, met, g⟩, ⟨proc, hI⟩, hb⟩
   have hml := hb.le hs
   cases q with
   | nil =>
    refine If.mk (fun h => absurd h (by show ¬ ((0 : Int) < 0); decide)) (fun _ => ?_)
    refine ifN ?_
    refine ⟨leb rfl, ?_⟩
    exact ⟨.inl rfl, leb rfl, rfl, _, firstV none, rfl, (fun H => wk_tup2F (wk_nil H)), under_firstV _ _, none, rfl, hI.nothing⟩
   | cons w q =>
    obtain ⟨x, l⟩ := w
    refine If.mk (fun _ => ?_) (fun h => absurd (by rw [List.length_cons]; omega) h)
    refine ifY ?_
    refine Ex.mk _ (jx_way) ?_
    refine Ex.mk _ rfl ?_
    refine Ex.mk _ (aop_sliceW (w := (x, l)) (q := q) rfl rfl rfl) ?_
    obtain ⟨hb1, hb2, hb3, hb4⟩ := hb
    have hb2 : ∀ p ∈ met, PosK b.vs p := hb2
    have hb1 : met.Nodup := hb1
    have hb3 : ((x, l) :: q).length ≤ met.length := hb3
    have hb4 : ∀ w ∈ (x, l) :: q, w.2.length < met.length ∧ PosK b.vs w.1 := hb4
    have hml : met.length ≤ 40000 := hml
    have hI : InvO (nextJ b.vs) (fun p => doneC cl p = true) st k ((x, l) :: q) met proc := hI
    obtain ⟨hlx, hPx⟩ := hb4 (x, l) (by simp)
    have hlx : l.length < met.length := hlx
    have hPx : PosK b.vs x := hPx
    refine CallG.at (nb (doneC cl x)) (fun H hH => ?_) ?_
    ·obtain ⟨H2, rfl⟩ := hH.first3 ⟨bk rfl rfl, bk rfl rfl, bk rfl rfl, trivial⟩
     exact c_joiDone hs hPx.1 hPx.2.1 hPx.2.2.1 hPx.2.2.2 _ _ _ _ _ _ H2
    refine IfB.mk (fun hd => ?_) (fun hd => ?_)
    ·exact ⟨leb rfl, .inl rfl, leb rfl, rfl, _, firstV (some l), rfl, (fun H => WeakH.refl _ H), under_firstV _ _, some l, rfl, hI.found hd⟩
    ·have hI0 := hI.take (by rw [hd]; decide)
     refine LoopG.at (n0 := 7) rfl (loop_up mixed (m := false) (fun r => [(1, n' b.cues), (2, nxJ), (3, dnJ), (10, .mp 4), (11, .sl (stpG (nextJ b.vs) x l ⟨q, met, g⟩ r).q.length (waysA (stpG (nextJ b.vs) x l ⟨q, met, g⟩ r).q) (.own 5 (stpG (nextJ b.vs) x l ⟨q, met, g⟩ r).g 6)), (12, .ptr 6 0), (35, n' b.cues), (36, n' r)])
      (fun r => joiL b cl ++ [(4, .map (.arr 5) (metE (stpG (nextJ b.vs) x l ⟨q, met, g⟩ r).met)), (5, .row (stpG (nextJ b.vs) x l ⟨q, met, g⟩ r).g), (6, .box (wayA (x, l)) 191)])
      (fun r => InvI (nextJ b.vs) (fun p => doneC cl p = true) st k x l r (stpG (nextJ b.vs) x l ⟨q, met, g⟩ r).q (stpG (nextJ b.vs) x l ⟨q, met, g⟩ r).met proc ∧ Bd b.vs (stpG (nextJ b.vs) x l ⟨q, met, g⟩ r) ∧ (stpG (nextJ b.vs) x l ⟨q, met, g⟩ r).q.length + met.length = q.length + (stpG (nextJ b.vs) x l ⟨q, met, g⟩ r).met.length ∧ l.length < (stpG (nextJ b.vs) x l ⟨q, met, g⟩ r).met.length)
      k 4 (leb rfl) ⟨hI0, ⟨hb1, hb2, ?_, fun w hw => hb4 w (List.mem_cons_of_mem _ hw)⟩, rfl, hlx⟩ ?_ ?_ ?_)
     ·rw [List.length_cons] at hb3; show q.length ≤ met.length; omega
     ·exact ⟨wp rfl trivial, ⟨_, rfl, Weak.refl _ _, trivial, ltb rfl, trivial⟩, ⟨_, rfl, Weak.refl _ _, trivial, ltb rfl, trivial⟩, wp rfl (ltb rfl), ⟨_, rfl, Weak.refl _ _, under_waysA _ _, ltb rfl⟩, wp rfl (ltb rfl), wp rfl trivial, wp rfl trivial, trivial⟩
     ·exact ⟨bk rfl rfl, bk rfl rfl, bk rfl rfl, bk rfl rfl, bk rfl rfl, bk rfl rfl, trivial⟩
     ·intro r hr hJ
      obtain ⟨hJ1, hJ2, hJ3, hJ4⟩ := hJ
      have hstp : stpG (nextJ b.vs) x l ⟨q, met, g⟩ (r + 1) = if nextJ b.vs x r ∈ (stpG (nextJ b.vs) x l ⟨q, met, g⟩ r).met then stpG (nextJ b.vs) x l ⟨q, met, g⟩ r else ⟨(stpG (nextJ b.vs) x l ⟨q, met, g⟩ r).q ++ [(nextJ b.vs x r, l ++ [r])], (stpG (nextJ b.vs) x l ⟨q, met, g⟩ r).met ++ [nextJ b.vs x r], (stpG (nextJ b.vs) x l ⟨q, met, g⟩ r).g + 1⟩ := rfl
      have hke : k = 0 ∨ stpG (nextJ b.vs) x l ⟨q, met, g⟩ k = stpG (nextJ b.vs) x l ⟨q, met, g⟩ k := .inr rfl
      generalize hsr : stpG (nextJ b.vs) x l ⟨q, met, g⟩ r = s at hJ1 hJ2 hJ3 hJ4 hstp ⊢
      obtain ⟨q1, met1, g1⟩ := s
      have hml1 : met1.length ≤ 40000 := hJ2.le hs
      obtain ⟨hn1, hn2, hn3, hn4⟩ := hJ2
      have hn1 : met1.Nodup := hn1
      have hn2 : ∀ p ∈ met1, PosK b.vs p := hn2
      have hn3 : q1.length ≤ met1.length := hn3
      have hn4 : ∀ w ∈ q1, w.2.length < met1.length ∧ PosK b.vs w.1 := hn4
      have hJ1 : InvI (nextJ b.vs) (fun p => doneC cl p = true) st k x l r q1 met1 proc := hJ1
      have hJ3 : q1.length + met.length = q.length + met1.length := hJ3
      have hJ4 : l.length < met1.length := hJ4
      refine If.mk (fun h1 => ?_) (fun h1 => ?_)
      ·refine ifY ?_
       have hrk : r < k := by omega
       have hPy : PosK b.vs (nextJ b.vs x r) := hPx.nextJ hv hrk
       refine CallG.at (.agg (posA (nextJ b.vs x r))) (fun H hH => ?_) ?_
       ·obtain ⟨H2, rfl⟩ := hH.first3 ⟨bk rfl rfl, bk rfl rfl, bk rfl rfl, trivial⟩
        exact c_joiNext hv hrk hn hPx H2
       refine Ex.mk _ (aop_lookup (p := nextJ b.vs x r) (met := met1) (id := 4) rfl rfl rfl rfl (hPy.posS hs)) ?_
       refine IfB.mk (fun hm => ?_) (fun hm => ?_)
       ·have hm' : nextJ b.vs x r ∉ met1 := by simpa using hm
        refine Ex.mk _ (aop_update (p := nextJ b.vs x r) (met := met1) (id := 4) (.inl rfl) rfl rfl rfl rfl (hPy.posS hs) hm') ?_
        have e3 : stpG (nextJ b.vs) x l ⟨q, met, g⟩ (r + 1) = ⟨q1 ++ [(nextJ b.vs x r, l ++ [r])], met1 ++ [nextJ b.vs x r], g1 + 1⟩ := by rw [hstp]; exact if_neg hm'
        have hcl := cuesI_length l
        refine CallG.fresh (n0 := 20) [cuesA l] (joiL b cl ++ [(4, .map (.arr 5) (metE (met1 ++ [nextJ b.vs x r]))), (5, .row g1), (6, .box (wayA (x, l)) 191), (7, .box (posA (nextJ b.vs x r)) 130)]) rfl (.cons (fun H => WeakH.refl _ H) .nil) ?_ ?_
        ·exact ⟨bk rfl rfl, bk rfl rfl, bk rfl rfl, bk rfl rfl, bk rfl rfl, bk rfl rfl, bk rfl rfl, trivial⟩
        refine CallG.cloneI (l := cuesI l) (by omega) (leb rfl) ?_
        refine ex_app _ _ (app_int (List.length_map _) (by omega) rfl) ?_
        refine ex_app _ _ (app_way (q := q1) (p := nextJ b.vs x r) (by omega) rfl rfl) ?_
        refine Side.mk (fits64 (by omega)) ?_
        have hN := hJ1.new hrk hm'
        refine ⟨leb rfl, rfl, by omega, ?_, ⟨wp rfl trivial, ⟨_, rfl, Weak.refl _ _, trivial, ltb rfl, trivial⟩, ⟨_, rfl, Weak.refl _ _, trivial, ltb rfl, trivial⟩, wp rfl (ltb rfl), ⟨_, rfl, by rw [e3]; exact wk_way, under_waysA _ _, ltb rfl⟩, wp rfl (ltb rfl), wp rfl trivial, wp rfl trivial, trivial⟩, ⟨bk rfl rfl, bk rfl rfl, bk rfl rfl, ⟨?_, ltb rfl⟩, ⟨?_, ltb rfl⟩, bk rfl rfl, trivial⟩, ⟨⟨_, rfl, under_metE _ _⟩, ⟨_, rfl, trivial⟩, ⟨_, rfl, unders_append (under_posA _ _) ⟨under_cuesA _ _, trivial⟩⟩, trivial⟩⟩
        ·simp only [e3]
         refine ⟨hN, ⟨?_, fun p hp => ?_, ?_, fun w hw => ?_⟩, ?_, ?_⟩
         ·show (met1 ++ [nextJ b.vs x r]).Nodup
          rw [List.nodup_append]
          refine ⟨hn1, by simp, fun a ha c hc hac => ?_⟩
          rw [List.mem_singleton] at hc
          subst hc hac
          exact hm' ha
         ·rcases List.mem_append.1 hp with hp | hp
          ·exact hn2 p hp
          ·rw [List.mem_singleton] at hp; subst hp; exact hPy
         ·show (q1 ++ [_]).length ≤ (met1 ++ [_]).length
          rw [List.length_append, List.length_append]
          exact Nat.add_le_add_right hn3 1
         ·show w.2.length < (met1 ++ [nextJ b.vs x r]).length ∧ _
          rw [List.length_append, List.length_singleton]
          rcases List.mem_append.1 hw with hw | hw
          ·obtain ⟨k1, k2⟩ := hn4 w hw
           exact ⟨by omega, k2⟩
          ·rw [List.mem_singleton] at hw; subst hw
           refine ⟨?_, hPy⟩
           show (l ++ [r]).length < _
           rw [List.length_append, List.length_singleton]
           omega
         ·show (q1 ++ [_]).length + met.length = q.length + (met1 ++ [_]).length
          rw [List.length_append, List.length_append, List.length_singleton, List.length_singleton]
          omega
         ·show l.length < (met1 ++ [_]).length
          rw [List.length_append]
          omega
        ·rw [e3]; rfl
        ·rw [e3]; rfl
       ·have hm' : nextJ b.vs x r ∈ met1 := by simpa using hm
        have e3 : stpG (nextJ b.vs) x l ⟨q, met, g⟩ (r + 1) = ⟨q1, met1, g1⟩ := by rw [hstp]; exact if_pos hm'
        refine Side.mk (fits64 (by omega)) ?_
        refine ⟨leb rfl, rfl, by omega, ?_, ⟨wp rfl trivial, ⟨_, rfl, Weak.refl _ _, trivial, ltb rfl, trivial⟩, ⟨_, rfl, Weak.refl _ _, trivial, ltb rfl, trivial⟩, wp rfl (ltb rfl), ⟨_, rfl, by rw [e3]; exact Weak.refl _ _, under_waysA _ _, ltb rfl⟩, wp rfl (ltb rfl), wp rfl trivial, wp rfl trivial, trivial⟩, ⟨bk rfl rfl, bk rfl rfl, bk rfl rfl, ⟨?_, ltb rfl⟩, ⟨?_, ltb rfl⟩, bk rfl rfl, trivial⟩, trivial⟩
        ·simp only [e3]
         exact ⟨hJ1.old hm', ⟨hn1, hn2, hn3, hn4⟩, hJ3, hJ4⟩
        ·rw [e3]; rfl
        ·rw [e3]; rfl
      ·refine ifN ?_
       refine ⟨leb rfl, ?_⟩
       have er : r = k := by omega
       subst er
       refine ⟨leb rfl, rfl, ⟨⟨q1, met1, g1⟩, ⟨_, hJ1.over⟩, ⟨hn1, hn2, hn3, hn4⟩⟩, ?_, ⟨wp rfl trivial, ⟨_, rfl, Weak.refl _ _, trivial, ltb rfl, trivial⟩, ⟨_, rfl, Weak.refl _ _, trivial, ltb rfl, trivial⟩, wp rfl (ltb rfl), ⟨_, rfl, Weak.refl _ _, under_waysA _ _, ltb rfl⟩, trivial⟩, ⟨bk rfl rfl, bk rfl rfl, bk rfl rfl, bk rfl rfl, bk rfl rfl, trivial⟩, ⟨⟨_, rfl, under_metE _ _⟩, ⟨_, rfl, trivial⟩, trivial⟩⟩
       show q1.length + (40000 - met1.length) < ((x, l) :: q).length + (40000 - met.length)
       rw [List.length_cons]
       omega
end Go.Vm

namespace Go.Vm
open Go.Proofs
theorem Found.congr {K : Type} {next : K → Nat → K} {done done' : K → Prop} {st : K} {c : Nat} {o : Option (List Nat)} (h : Found next done st c o) (he : ∀ l, OkL c l → (done (runB next st l) ↔ done' (runB next st l))) : Found next done' st c o := by
 refine ⟨fun l hl => ?_, fun hn u hu hd => h.no hn u hu ((he u hu).2 hd)⟩
 obtain ⟨h1, h2, h3⟩ := h.yes l hl
 exact ⟨h1, (he l h1).1 h2, fun u hu hd => h3 u hu ((he u hu).2 hd)⟩
theorem okJ_iff {vs : List Vers} {K : Nat} {cl : Sta → Nat} (hcl : ∀ p ∈ allP vs, ∀ q ∈ allP vs, (cl p = cl q ↔ alS vs K p q)) {a b : Nat} {p q : Int} (hp : PosOk vs a p) (hq : PosOk vs b q) : okJ cl a b p q = true ↔ pairJ vs K a b p q := by
 have key : ∀ {n : Nat} {x : Int}, PosOk vs n x → 0 ≤ x → (n, x.toNat) ∈ allP vs := fun {n x} h h0 => by
  rcases h with rfl | ⟨_, h2, h3⟩
  ·omega
  ·refine allP_mem.2 ⟨h2, ?_⟩
   show x.toNat < (vs.getD n []).length
   omega
 unfold okJ pairJ
 by_cases h1 : 0 ≤ p
 ·by_cases h2 : 0 ≤ q
  ·have := hcl _ (key hp h1) _ (key hq h2)
   simp [h1, h2, this]
  ·simp [h2]
 ·simp [h1]
theorem doneC_iff {vs : List Vers} {K : Nat} {cl : Sta → Nat} (hcl : ∀ p ∈ allP vs, ∀ q ∈ allP vs, (cl p = cl q ↔ alS vs K p q)) {p : Pos} (hp : PosK vs p) : doneC cl p = true ↔ doneJ vs K p := by
 obtain ⟨h0, h1, h2, h3⟩ := hp
 have e1 := okJ_iff hcl h1 h0
 have e2 := okJ_iff hcl h2 h0
 have e3 := okJ_iff hcl h2 h1
 have e4 := okJ_iff hcl h3 h0
 have e5 := okJ_iff hcl h3 h1
 have e6 := okJ_iff hcl h3 h2
 unfold doneC jkB doneJ
 rw [← e1, ← e2, ← e3, ← e4, ← e5, ← e6]
 simp
theorem er_ok {vs : List Vers} {K : Nat} {L : List Int} (hv : ∀ v ∈ vs, VersOk v K) (hv0 : ∀ v ∈ vs, 0 < v.length) (hL : LeftOk vs L) {l : List Nat} (hl : OkL K l) (n : Nat) : PosOk vs n (erI vs L l n) := by
 unfold erI
 by_cases h : (n : Int) ∈ L
 ·rw [if_pos h]
  have hn : n < vs.length := hL.nat n h
  have hm : vs.getD n [] ∈ vs := vAt_in hn
  have := after_lt (hv _ hm) (cuesI_ok hl) (hv0 _ hm)
  exact .inr ⟨by omega, hn, by omega⟩
 ·rw [if_neg h]; exact .inl rfl
theorem remL_left {b : Book} (hn : b.vs.length ≤ 4) (evs : List Evening) : LeftOk b.vs (remL b.vs evs b.vs.length) :=
 ⟨fun _ h => remL_mem h, Nat.le_trans (remL_length _ _ _) hn⟩
set_option maxHeartbeats 4000000 in
set_option maxRecDepth 100000 in
theorem c_Join {b : Book} (hl : BLen b) (hB : BOk b) {evs : List Evening} (hE : EvsOk b evs) (hne : remL b.vs evs b.vs.length ≠ []) :
  ∃ o, Found (nextJ b.vs) (doneJ b.vs b.cues.toNat) (jRun b.vs (remL b.vs evs b.vs.length) []) b.cues.toNat o ∧ ∀ H, ACall Tryz.prog 62 [eBook b, eEvenings evs] H (.ret (tellV o)) H := by
 have hbc := hB.1.1
 have hvn := hB.1.2.2
 unfold inI at hbc hvn
 have hv : ∀ v ∈ b.vs, VersOk v b.cues.toNat := fun v hv => (hB.2 v hv).vers.1
 have hv0 : ∀ v ∈ b.vs, 0 < v.length := fun v hv => (hB.2 v hv).vers.2
 have hs : Small b.vs := fun v hv => by
  have := (hB.2 v hv).2
  unfold inI at this
  omega
 have hL := remL_left (b := b) (by omega) evs
 have hRl := remL_length b.vs evs b.vs.length
 have hleft : ∀ H, ACall Tryz.prog 99 [eBook b, .lit (.bool true), eEvenings evs, eEvening ([], [])] H (.ret (.tup [eInts (remL b.vs evs b.vs.length), .lit (.int .i64 0)])) H := fun H => by
  have h1c := hB.1.1.1
  have hN : EvOk b ([], []) := ⟨⟨⟨by simp, fun c h => by cases h⟩, ⟨fun c h => (by cases h), (by simp)⟩⟩, rfl⟩
  have := c_left hl hB hE hN (by rw [remL_now]; exact hne) H
  rwa [remL_now] at this
 generalize remL b.vs evs b.vs.length = L at *
 obtain ⟨es, ⟨cl, rfl, hcb, hcl⟩, hmap⟩ := c_classes hB
 have hst : PosK b.vs (jRun b.vs L []) := ⟨er_ok hv hv0 hL (fun x hx => by cases hx) 0, er_ok hv hv0 hL (fun x hx => by cases hx) 1, er_ok hv hv0 hL (fun x hx => by cases hx) 2, er_ok hv hv0 hL (fun x hx => by cases hx) 3⟩
 obtain ⟨v, ⟨o, rfl, hF⟩, hc⟩ := c_firstJ (b := b) (cl := cl) (k := b.cues.toNat) hv (by omega) (by omega) (by omega) hs hst
 have hF' := hF.congr (done' := doneJ b.vs b.cues.toNat) fun l hl => by
  rw [jRun_pos hv hv0 hL l hl]
  exact doneC_iff hcl ⟨er_ok hv hv0 hL hl 0, er_ok hv hv0 hL hl 1, er_ok hv hv0 hL hl 2, er_ok hv hv0 hL hl 3⟩
 refine ⟨o, hF', fun H => ?_⟩
 refine fn_rule (m := false) (fn := Tryz.f62) (c := (Tryz.f62.body).getD .skip) mixed (by kernel_rfl) (by kernel_rfl) (of_decide_eq_true (by kernel_rfl)) ?_ ?_ ?_ H
 ·exact ⟨under_eBook 0 _, under_eEvenings 0 _, trivial⟩
 ·exact under_tellV 0 _
 ·refine CallG.weak _ (.cons (fun H => WeakH.refl _ H) (.cons (fun H => WeakH.refl _ H) (.cons (fun H => WeakH.refl _ H) (.cons wk_ev0 .nil)))) hleft ?_
  refine If.mk (fun _ => ?_) (fun h => absurd (by decide) h)
  refine ifN ?_
  refine CallG.map hmap ?_
  refine CallG.weak _ (.cons (fun H => WeakH.tail _ _ _ H) (.nil)) (c_posBegun L (by omega)) ?_
  cases o with
  | none =>
   refine CallG.at (firstV none) (fun H hH => ?_) ?_
   ·obtain ⟨H2, rfl⟩ := hH.first3 (b := b) (cl := cl) ⟨bk rfl rfl, bk rfl rfl, bk rfl rfl, trivial⟩
    exact hc H2
   refine ifY ?_
   exact ⟨.inl rfl, FinG.mk _ rfl rfl rfl⟩
  | some l =>
   refine CallG.at (firstV (some l)) (fun H hH => ?_) ?_
   ·obtain ⟨H2, rfl⟩ := hH.first3 (b := b) (cl := cl) ⟨bk rfl rfl, bk rfl rfl, bk rfl rfl, trivial⟩
    exact hc H2
   refine ifN ?_
   refine ⟨.inl rfl, FinG.mk _ rfl rfl ?_⟩
   show AV.tup [AV.freeze _ (eInts (cuesI l)), _] = _
   rw [freeze_eInts]
   rfl
end Go.Vm
