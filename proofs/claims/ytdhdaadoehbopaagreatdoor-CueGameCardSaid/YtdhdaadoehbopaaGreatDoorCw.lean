/-
  Settle of the specification and of package cue, by classes and a search by breadth, for books and evenings as told at each, in every heap. Conditions: at each theorem.
-/
import Derived.Test.YtdhdaadoehbopaaGreatDoorCu

namespace Go.Vm
open Go.Proofs
abbrev alC : AV := .fn (.func 112) [] [.ptr 2 0]
def setlH (b : Book) (cl : Sta → Nat) : List Blk := [bBox b, clMap b cl, .box [.mp 1] 138, .box [alC] 127]
noncomputable def setlL (b : Book) (cl : Sta → Nat) : List (Nat × Blk) := [(0, bBox b), (1, clMap b cl), (2, .box [.mp 1] 138), (3, .box [alC] 127)]
theorem setlH_under (b : Book) (cl : Sta → Nat) : ∀ B ∈ setlH b cl, B.under 4 := fun B hB => by
 rcases List.mem_cons.1 hB with rfl | hB
 ·exact bBox_under _ _
 ·rcases List.mem_cons.1 hB with rfl | hB
  ·exact under_kE _
  ·rcases List.mem_cons.1 hB with rfl | hB
   ·exact ⟨ltb rfl, trivial⟩
   ·rw [List.mem_singleton] at hB; subst hB; exact ⟨⟨trivial, ltb rfl, trivial⟩, trivial⟩
theorem HT.first4 {t : Trie Blk} {n : Nat} {H : List Blk} {b : Book} {cl : Sta → Nat} (hH : HT t n H) (hb : Blks (get t) noLo (setlL b cl)) : ∃ H2, H = setlH b cl ++ H2 := by
 have e0 : H.take 4 = hp (setlL b cl) := take_full (l := setlL b cl) ⟨rfl, rfl, rfl, rfl, trivial⟩ fun q hq => hH.blk _ _ (hb.mem q hq).1
 exact ⟨H.drop 4, by show H = hp (setlL b cl) ++ H.drop 4; rw [← e0, List.take_append_drop]⟩
set_option maxRecDepth 100000 in
theorem c_setNext {b : Book} {cl : Sta → Nat} {k c : Nat} (hv : ∀ v ∈ b.vs, VersOk v k) (hc : c < k) (hn : b.vs.length ≤ 4) {p : Pos} (hp : PosK b.vs p) (H2 : List Blk) :
  ACall Tryz.prog 113 [.agg (posA p), n' c, .ptr 0 0] (setlH b cl ++ H2) (.ret (.agg (posA (nextP b.vs p c)))) (setlH b cl ++ H2) := by
 obtain ⟨h0, h1, h2, h3⟩ := hp
 refine fn_pre (m := false) (fn := Tryz.f113) (c := (Tryz.f113.body).getD .skip) (t0 := ofL (setlL b cl)) (n0 := 4) mixed (by kernel_rfl) (by kernel_rfl) (of_decide_eq_true (by kernel_rfl)) (HT.full (l := setlL b cl) ⟨rfl, rfl, rfl, rfl, trivial⟩ rfl) ?_ (setlH_under b cl) rfl ?_ H2
 ·exact ⟨under_posA 4 _, trivial, ltb rfl, trivial⟩
 refine CallG.pure _ (c_posAfter hv hc hn h0 h1 h2 h3 _ _ _ _ _ _) ?_
 exact ⟨.inl rfl, leb rfl, FinF.mk _ rfl rfl rfl⟩
theorem key0 {n : Nat} (hn : n ≤ 3) : ∀ x ∈ [((n : Nat) : Int), 0], -1 ≤ x ∧ x ≤ 1000 := fun x hx => by
 rcases List.mem_cons.1 hx with h1 | h1
 ·omega
 ·rw [List.mem_singleton] at h1
  omega
theorem cl_zero {vs : List Vers} {cl : Sta → Nat} {n : Nat} {p : Int} (h : PosOk vs n p) (h0 : 0 ≤ p) : lookI (cE (allP vs) cl) [((n : Nat) : Int), 0] = some ((cl (n, 0) : Nat) : Int) := by
 rcases h with rfl | ⟨_, h2, h3⟩
 ·omega
 ·refine cE_look (s := 0) (allP_mem.2 ⟨h2, ?_⟩)
  show 0 < (vs.getD n []).length
  omega
set_option maxRecDepth 100000 in
theorem c_al {b : Book} {cl : Sta → Nat} {n m : Nat} {p q : Int} (hn : n ≤ 3) (hm : m ≤ 3) (hp : PosOk b.vs n p) (hp0 : 0 ≤ p) (hq : PosOk b.vs m q) (hq0 : 0 ≤ q) (H2 : List Blk) :
  ACall Tryz.prog 112 [n' (n : Nat), n' (m : Nat), .ptr 2 0] (joiH b cl ++ H2) (.ret (nb (decide (cl (n, 0) = cl (m, 0))))) (joiH b cl ++ H2) := by
 refine fn_pre (m := false) (fn := Tryz.f112) (c := (Tryz.f112.body).getD .skip) (t0 := ofL (joiL b cl)) (n0 := 3) mixed (by kernel_rfl) (by kernel_rfl) (of_decide_eq_true (by kernel_rfl)) (HT.full (l := joiL b cl) ⟨rfl, rfl, rfl, trivial⟩ rfl) ?_ (joiH_under b cl) rfl ?_ H2
 ·exact ⟨trivial, trivial, ltb rfl, trivial⟩
 refine Ex.mk _ (aop_lookK (kt := 141) (et := 3) (key := [((n : Nat) : Int), 0]) rfl rfl rfl rfl (by kernel_rfl) (by kernel_rfl) rfl (key0 hn) (cl_zero hp hp0)) ?_
 refine Ex.mk _ (aop_lookK (kt := 141) (et := 3) (key := [((m : Nat) : Int), 0]) rfl rfl rfl rfl (by kernel_rfl) (by kernel_rfl) rfl (key0 hm) (cl_zero hq hq0)) ?_
 refine If.mk (fun he => ?_) (fun he => ?_)
 ·have he' : cl (n, 0) = cl (m, 0) := by
   have h9 : ((cl (n, 0) : Nat) : Int) = ((cl (m, 0) : Nat) : Int) := he
   omega
  rw [decide_eq_true he']
  exact ⟨.inl rfl, leb rfl, FinF.mk _ rfl rfl rfl⟩
 ·have he' : ¬ cl (n, 0) = cl (m, 0) := fun h9 => he (by rw [h9])
  rw [decide_eq_false he']
  exact ⟨.inl rfl, leb rfl, FinF.mk _ rfl rfl rfl⟩
theorem c_alY {b : Book} {cl : Sta → Nat} {n m : Nat} {p q : Int} (hn : n ≤ 3) (hm : m ≤ 3) (hp : PosOk b.vs n p) (hp0 : 0 ≤ p) (hq : PosOk b.vs m q) (hq0 : 0 ≤ q) (h : cl (n, 0) = cl (m, 0)) (H2 : List Blk) : ACall Tryz.prog 112 [n' (n : Nat), n' (m : Nat), .ptr 2 0] (joiH b cl ++ H2) (.ret (.lit (.bool true))) (joiH b cl ++ H2) := by
 have := c_al (cl := cl) hn hm hp hp0 hq hq0 H2
 rwa [decide_eq_true h] at this
theorem c_alN {b : Book} {cl : Sta → Nat} {n m : Nat} {p q : Int} (hn : n ≤ 3) (hm : m ≤ 3) (hp : PosOk b.vs n p) (hp0 : 0 ≤ p) (hq : PosOk b.vs m q) (hq0 : 0 ≤ q) (h : ¬ cl (n, 0) = cl (m, 0)) (H2 : List Blk) : ACall Tryz.prog 112 [n' (n : Nat), n' (m : Nat), .ptr 2 0] (joiH b cl ++ H2) (.ret (.lit (.bool false))) (joiH b cl ++ H2) := by
 have := c_al (cl := cl) hn hm hp hp0 hq hq0 H2
 rwa [decide_eq_false h] at this
def andI (a b c d e f : Bool) (k : Int) : Int := IntKind.i64.wrap (BitVec.ofInt IntKind.i64.bits (maskI a b c d e f) &&& BitVec.ofInt IntKind.i64.bits k).toNat
theorem mz0 : ∀ a b c d e f : Bool, andI a b c d e f 1 = 0 ↔ a = false := by
 intro a b c d e f; cases a <;> cases b <;> cases c <;> cases d <;> cases e <;> cases f <;> decide
theorem mz1 : ∀ a b c d e f : Bool, andI a b c d e f 2 = 0 ↔ b = false := by
 intro a b c d e f; cases a <;> cases b <;> cases c <;> cases d <;> cases e <;> cases f <;> decide
theorem mz2 : ∀ a b c d e f : Bool, andI a b c d e f 4 = 0 ↔ c = false := by
 intro a b c d e f; cases a <;> cases b <;> cases c <;> cases d <;> cases e <;> cases f <;> decide
theorem mz3 : ∀ a b c d e f : Bool, andI a b c d e f 8 = 0 ↔ d = false := by
 intro a b c d e f; cases a <;> cases b <;> cases c <;> cases d <;> cases e <;> cases f <;> decide
theorem mz4 : ∀ a b c d e f : Bool, andI a b c d e f 16 = 0 ↔ e = false := by
 intro a b c d e f; cases a <;> cases b <;> cases c <;> cases d <;> cases e <;> cases f <;> decide
theorem mz5 : ∀ a b c d e f : Bool, andI a b c d e f 32 = 0 ↔ f = false := by
 intro a b c d e f; cases a <;> cases b <;> cases c <;> cases d <;> cases e <;> cases f <;> decide
def okS (cl : Sta → Nat) (m : Bool) (a b : Nat) (p q : Int) : Bool := m || (!(decide (0 ≤ p) && decide (0 ≤ q)) || decide (cl (a, 0) = cl (b, 0)))
def skB (cl : Sta → Nat) (p0 p1 p2 p3 : Int) (m0 m1 m2 m3 m4 m5 : Bool) (k : Nat) : Bool :=
 (decide (k ≤ 0) || okS cl m0 1 0 p1 p0) && ((decide (k ≤ 1) || okS cl m1 2 0 p2 p0) && ((decide (k ≤ 2) || okS cl m2 2 1 p2 p1) && ((decide (k ≤ 3) || okS cl m3 3 0 p3 p0) && ((decide (k ≤ 4) || okS cl m4 3 1 p3 p1) && (decide (k ≤ 5) || okS cl m5 3 2 p3 p2)))))
noncomputable def sdB (st : LoopState) : Blk := lpB Tryz.f109 st [(2, .ptr 3 0), (3, .ptr 4 0), (4, .ptr 5 0), (8, .fn (.func 175) [] [.ptr 6 0])] 7
theorem under_sdB (st : LoopState) : (sdB st).under 9 := under_lpB ⟨ltb rfl, ltb rfl, ltb rfl, ⟨trivial, ltb rfl, trivial⟩, trivial⟩ (ltb rfl)
noncomputable def sdL (b : Book) (cl : Sta → Nat) (p0 p1 p2 p3 : Int) (m0 m1 m2 m3 m4 m5 : Bool) (st : LoopState) : List (Nat × Blk) :=
 joiL b cl ++ [(3, .box (posC p0 p1 p2 p3 m0 m1 m2 m3 m4 m5) 130), (4, .box [alC] 127), (5, .box [.lit (.bool false)] 4), (6, .box (posC p0 p1 p2 p3 m0 m1 m2 m3 m4 m5) 130), (7, .defd), (8, sdB st)]
set_option maxHeartbeats 8000000 in
set_option maxRecDepth 100000 in
theorem c_setTold {b : Book} {cl : Sta → Nat} {p0 p1 p2 p3 : Int} (h0 : PosOk b.vs 0 p0) (h1 : PosOk b.vs 1 p1) (h2 : PosOk b.vs 2 p2) (h3 : PosOk b.vs 3 p3) (m0 m1 m2 m3 m4 m5 : Bool) (H2 : List Blk) :
  ACall Tryz.prog 109 [.agg (posC p0 p1 p2 p3 m0 m1 m2 m3 m4 m5), alC] (joiH b cl ++ H2) (.ret (nb (skB cl p0 p1 p2 p3 m0 m1 m2 m3 m4 m5 6))) (joiH b cl ++ H2) := by
 refine fn_preM (m := false) (fn := Tryz.f109) (c := (Tryz.f109.body).getD .skip) (t0 := ofL (joiL b cl)) (n0 := 3) mixed (by kernel_rfl) (by kernel_rfl) (of_decide_eq_true (by kernel_rfl)) (HT.full (l := joiL b cl) ⟨rfl, rfl, rfl, trivial⟩ rfl) ?_ (joiH_under b cl) rfl ?_ H2
 ·exact ⟨under_posC 3 _ _ _ _ _ _ _ _ _ _, ⟨trivial, ltb rfl, trivial⟩, trivial⟩
 ·refine CallG.inlineP (m := false) (fn := Tryz.f125) (c := (Tryz.f125.body).getD .skip) mixed (by kernel_rfl) (by kernel_rfl) (of_decide_eq_true (by kernel_rfl)) ?_
  refine .inl ⟨.inl rfl, _, rfl, rfl, ?_⟩
  refine RangeG.fresh (n0 := 7) [(2, .ptr 3 0), (3, .ptr 4 0), (4, .ptr 5 0), (8, .fn (.func 175) [] [.ptr 6 0])] ((sdL b cl p0 p1 p2 p3 m0 m1 m2 m3 m4 m5 .ready).take 7) rfl ?_ ?_ ?_
  ·exact ⟨⟨_, rfl, Weak.refl _ _⟩, ⟨_, rfl, Weak.refl _ _⟩, ⟨_, rfl, Weak.refl _ _⟩, ⟨_, rfl, Weak.refl _ _⟩, trivial⟩
  ·exact ⟨bk rfl rfl, bk rfl rfl, bk rfl rfl, bk rfl rfl, bk rfl rfl, bk rfl rfl, bk rfl rfl, trivial⟩
  refine RangeG.outer (f := 175) (first := []) (captured := [.ptr 6 0]) rfl rfl rfl ?_
  refine CallG.inlineP (m := false) (fn := Tryz.f175) (c := (Tryz.f175.body).getD .skip) mixed (by kernel_rfl) (by kernel_rfl) (of_decide_eq_true (by kernel_rfl)) ?_
  refine LoopG.at (n0 := 9) rfl (loop_up mixed (m := false) (fun a => [(0, .yld 8), (1, .ptr 6 0), (3, n' (kk a : Nat)), (6, n' a)]) (fun _ => sdL b cl p0 p1 p2 p3 m0 m1 m2 m3 m4 m5 .ready) (fun a => skB cl p0 p1 p2 p3 m0 m1 m2 m3 m4 m5 (kk a) = true) 4 5 (leb rfl) rfl ?_ ?_ ?_)
  ·exact ⟨wp rfl (ltb rfl), wp rfl (ltb rfl), wp rfl trivial, wp rfl trivial, trivial⟩
  ·exact ⟨bk rfl rfl, bk rfl rfl, bk rfl rfl, bk rfl rfl, bk rfl rfl, bk rfl rfl, bk rfl rfl, bk rfl rfl, bk rfl rfl, trivial⟩
  ·intro a ha hI
   have ha4 : a = 0 ∨ a = 1 ∨ a = 2 ∨ a = 3 ∨ a = 4 := by omega
   rcases ha4 with rfl | rfl | rfl | rfl | rfl
   ·refine If.mk (fun _ => ?_) (fun h => absurd (by decide) h)
    refine ifY ?_
    refine LoopG.at (n0 := 9) rfl (loop_up mixed (m := false) (fun r => [(0, .yld 8), (1, .ptr 6 0), (3, n' (kk 0 + r : Nat)), (4, n' (0 : Nat)), (6, n' (0 : Nat)), (9, n' (0 : Nat)), (10, n' r)]) (fun _ => sdL b cl p0 p1 p2 p3 m0 m1 m2 m3 m4 m5 .ready) (fun r => skB cl p0 p1 p2 p3 m0 m1 m2 m3 m4 m5 (kk 0 + r) = true) 0 5 (leb rfl) hI ?_ ?_ ?_)
    ·exact ⟨wp rfl (ltb rfl), wp rfl (ltb rfl), wp rfl trivial, wp rfl trivial, wp rfl trivial, wp rfl trivial, wp rfl trivial, trivial⟩
    ·exact ⟨bk rfl rfl, bk rfl rfl, bk rfl rfl, bk rfl rfl, bk rfl rfl, bk rfl rfl, bk rfl rfl, bk rfl rfl, bk rfl rfl, trivial⟩
    ·intro r hr hJ
     obtain rfl : r = 0 := by omega
     refine If.mk (fun h => absurd h (by decide)) (fun _ => ?_)
     refine ifN ?_
     refine ⟨leb rfl, ?_⟩
     refine Side.mk (fits64 (by omega)) ?_
     refine ⟨leb rfl, rfl, by omega, hJ, ⟨wp rfl (ltb rfl), wp rfl (ltb rfl), wp rfl trivial, wp rfl trivial, trivial⟩, ?_, ?_⟩
     ·exact ⟨bk rfl rfl, bk rfl rfl, bk rfl rfl, bk rfl rfl, bk rfl rfl, bk rfl rfl, bk rfl rfl, bk rfl rfl, bk rfl rfl, trivial⟩
     ·exact ⟨⟨_, rfl, trivial, trivial⟩, ⟨_, rfl, under_posC _ _ _ _ _ _ _ _ _ _ _⟩, ⟨_, rfl, trivial⟩, ⟨sdB .ready, rfl, under_sdB _⟩, trivial⟩
   ·refine If.mk (fun _ => ?_) (fun h => absurd (by decide) h)
    refine ifY ?_
    refine LoopG.at (n0 := 9) rfl (loop_up mixed (m := false) (fun r => [(0, .yld 8), (1, .ptr 6 0), (3, n' (kk 1 + r : Nat)), (4, n' (1 : Nat)), (6, n' (1 : Nat)), (9, n' (1 : Nat)), (10, n' r)]) (fun _ => sdL b cl p0 p1 p2 p3 m0 m1 m2 m3 m4 m5 .ready) (fun r => skB cl p0 p1 p2 p3 m0 m1 m2 m3 m4 m5 (kk 1 + r) = true) 1 5 (leb rfl) hI ?_ ?_ ?_)
    ·exact ⟨wp rfl (ltb rfl), wp rfl (ltb rfl), wp rfl trivial, wp rfl trivial, wp rfl trivial, wp rfl trivial, wp rfl trivial, trivial⟩
    ·exact ⟨bk rfl rfl, bk rfl rfl, bk rfl rfl, bk rfl rfl, bk rfl rfl, bk rfl rfl, bk rfl rfl, bk rfl rfl, bk rfl rfl, trivial⟩
    ·intro r hr hJ
     have hr4 : r = 0 ∨ r = 1 := by omega
     rcases hr4 with rfl | rfl
     case' inl =>
      refine If.mk (fun _ => ?_) (fun h => absurd (by decide) h)
      refine ifY ?_
      refine If.mk (fun ga => ?_) (fun ga => ?_)
      case' refine_2 => have e0 : okS cl m0 1 0 p1 p0 = true := by simp [okS, ga]
      case' refine_1 =>
       refine If.mk (fun gb => ?_) (fun gb => ?_)
       case' refine_2 => have e0 : okS cl m0 1 0 p1 p0 = true := by simp [okS, gb]
       case' refine_1 =>
        refine RoundG.fresh (n0 := 9) (sdL b cl p0 p1 p2 p3 m0 m1 m2 m3 m4 m5 .ready) rfl ?_ ?_
        ·exact ⟨bk rfl rfl, bk rfl rfl, bk rfl rfl, bk rfl rfl, bk rfl rfl, bk rfl rfl, bk rfl rfl, bk rfl rfl, bk rfl rfl, trivial⟩
        refine RoundG.introF (m := false) mixed rfl rfl (by decide) ?_
        refine ⟨rfl, _, rfl, rfl, [(2, .ptr 3 0), (3, .ptr 4 0), (4, .ptr 5 0), (5, n' (0 : Nat)), (6, .ptr 9 0)], sdL b cl p0 p1 p2 p3 m0 m1 m2 m3 m4 m5 .busy ++ [(9, .box [n' (1 : Nat), n' (0 : Nat)] 141)], 10, rfl, ?_, ?_, ?_⟩
        ·exact ⟨⟨_, rfl, Weak.refl _ _⟩, ⟨_, rfl, Weak.refl _ _⟩, ⟨_, rfl, Weak.refl _ _⟩, ⟨_, rfl, Weak.refl _ _⟩, ⟨_, rfl, Weak.refl _ _⟩, trivial⟩
        ·exact ⟨bk rfl rfl, bk rfl rfl, bk rfl rfl, bk rfl rfl, bk rfl rfl, bk rfl rfl, bk rfl rfl, bk rfl rfl, bk rfl rfl, bk rfl rfl, trivial⟩
        refine If.mk (fun hz => ?_) (fun hz => ?_)
        case' refine_1 =>
         have hm : m0 = false := (mz0 m0 m1 m2 m3 m4 m5).1 hz
         by_cases hcl : cl (1, 0) = cl (0, 0)
         case' pos =>
          refine CallG.at (.lit (.bool true)) (fun H hH => ?_) ?_
          ·obtain ⟨H2, rfl⟩ := hH.first3 (b := b) (cl := cl) ⟨bk rfl rfl, bk rfl rfl, bk rfl rfl, trivial⟩
           exact c_alY (by decide) (by decide) h1 ga h0 gb hcl H2
          refine ifN ?_
          refine ⟨_, _, rfl, rfl, ?_⟩
          have e0 : okS cl m0 1 0 p1 p0 = true := by simp [okS, hcl]
         case' neg =>
          refine CallG.at (.lit (.bool false)) (fun H hH => ?_) ?_
          ·obtain ⟨H2, rfl⟩ := hH.first3 (b := b) (cl := cl) ⟨bk rfl rfl, bk rfl rfl, bk rfl rfl, trivial⟩
           exact c_alN (by decide) (by decide) h1 ga h0 gb hcl H2
          refine ifY ?_
          refine ⟨_, _, rfl, rfl, ?_⟩
          refine ifY ?_
          refine ⟨leb rfl, leb rfl, .inl ⟨.inl rfl, _, rfl, rfl, _, _, rfl, (fun e => by cases e), rfl, .inl rfl, leb rfl, FinP.mk _ rfl rfl ?_⟩⟩
          have e0 : okS cl m0 1 0 p1 p0 = false := by simp [okS, ga, gb, hm, hcl]
          show AV.lit (.bool false) = nb (skB cl p0 p1 p2 p3 m0 m1 m2 m3 m4 m5 6)
          simp [skB, e0, nb]
        case' refine_2 =>
         have hm : m0 = true := by
          have h := fun e => hz ((mz0 m0 m1 m2 m3 m4 m5).2 e)
          revert h
          cases m0 <;> simp
         refine ifN ?_
         refine ⟨_, _, rfl, rfl, ?_⟩
         have e0 : okS cl m0 1 0 p1 p0 = true := by simp [okS, hm]
     case' inr =>
      refine If.mk (fun h => absurd h (by decide)) (fun _ => ?_)
      refine ifN ?_
      refine ⟨leb rfl, ?_⟩
      refine Side.mk (fits64 (by omega)) ?_
      refine ⟨leb rfl, rfl, by omega, hJ, ⟨wp rfl (ltb rfl), wp rfl (ltb rfl), wp rfl trivial, wp rfl trivial, trivial⟩, ?_, ?_⟩
      ·exact ⟨bk rfl rfl, bk rfl rfl, bk rfl rfl, bk rfl rfl, bk rfl rfl, bk rfl rfl, bk rfl rfl, bk rfl rfl, bk rfl rfl, trivial⟩
      ·exact ⟨⟨_, rfl, trivial, trivial⟩, ⟨_, rfl, under_posC _ _ _ _ _ _ _ _ _ _ _⟩, ⟨_, rfl, trivial⟩, ⟨sdB .ready, rfl, under_sdB _⟩, trivial⟩
     all_goals
      refine ifN ?_
      refine Side.mk (by unfold fitsK; kernel_rfl) ?_
      refine Side.mk (by unfold fitsK; kernel_rfl) ?_
      refine ⟨leb rfl, rfl, by omega, ?_, ⟨wp rfl (ltb rfl), wp rfl (ltb rfl), wp rfl trivial, wp rfl trivial, wp rfl trivial, wp rfl trivial, wp rfl trivial, trivial⟩, ?_, ?_⟩
      ·have hJ' := hJ
       simp [kk, skB, e0] at hJ' ⊢
       try simp [hJ']
      ·exact ⟨bk rfl rfl, bk rfl rfl, bk rfl rfl, bk rfl rfl, bk rfl rfl, bk rfl rfl, bk rfl rfl, bk rfl rfl, bk rfl rfl, trivial⟩
      ·first | trivial | exact ⟨⟨sdB .ready, rfl, under_sdB _⟩, trivial⟩
   ·refine If.mk (fun _ => ?_) (fun h => absurd (by decide) h)
    refine ifY ?_
    refine LoopG.at (n0 := 9) rfl (loop_up mixed (m := false) (fun r => [(0, .yld 8), (1, .ptr 6 0), (3, n' (kk 2 + r : Nat)), (4, n' (2 : Nat)), (6, n' (2 : Nat)), (9, n' (2 : Nat)), (10, n' r)]) (fun _ => sdL b cl p0 p1 p2 p3 m0 m1 m2 m3 m4 m5 .ready) (fun r => skB cl p0 p1 p2 p3 m0 m1 m2 m3 m4 m5 (kk 2 + r) = true) 2 5 (leb rfl) hI ?_ ?_ ?_)
    ·exact ⟨wp rfl (ltb rfl), wp rfl (ltb rfl), wp rfl trivial, wp rfl trivial, wp rfl trivial, wp rfl trivial, wp rfl trivial, trivial⟩
    ·exact ⟨bk rfl rfl, bk rfl rfl, bk rfl rfl, bk rfl rfl, bk rfl rfl, bk rfl rfl, bk rfl rfl, bk rfl rfl, bk rfl rfl, trivial⟩
    ·intro r hr hJ
     have hr4 : r = 0 ∨ r = 1 ∨ r = 2 := by omega
     rcases hr4 with rfl | rfl | rfl
     case' inl =>
      refine If.mk (fun _ => ?_) (fun h => absurd (by decide) h)
      refine ifY ?_
      refine If.mk (fun ga => ?_) (fun ga => ?_)
      case' refine_2 => have e0 : okS cl m1 2 0 p2 p0 = true := by simp [okS, ga]
      case' refine_1 =>
       refine If.mk (fun gb => ?_) (fun gb => ?_)
       case' refine_2 => have e0 : okS cl m1 2 0 p2 p0 = true := by simp [okS, gb]
       case' refine_1 =>
        refine RoundG.fresh (n0 := 9) (sdL b cl p0 p1 p2 p3 m0 m1 m2 m3 m4 m5 .ready) rfl ?_ ?_
        ·exact ⟨bk rfl rfl, bk rfl rfl, bk rfl rfl, bk rfl rfl, bk rfl rfl, bk rfl rfl, bk rfl rfl, bk rfl rfl, bk rfl rfl, trivial⟩
        refine RoundG.introF (m := false) mixed rfl rfl (by decide) ?_
        refine ⟨rfl, _, rfl, rfl, [(2, .ptr 3 0), (3, .ptr 4 0), (4, .ptr 5 0), (5, n' (1 : Nat)), (6, .ptr 9 0)], sdL b cl p0 p1 p2 p3 m0 m1 m2 m3 m4 m5 .busy ++ [(9, .box [n' (2 : Nat), n' (0 : Nat)] 141)], 10, rfl, ?_, ?_, ?_⟩
        ·exact ⟨⟨_, rfl, Weak.refl _ _⟩, ⟨_, rfl, Weak.refl _ _⟩, ⟨_, rfl, Weak.refl _ _⟩, ⟨_, rfl, Weak.refl _ _⟩, ⟨_, rfl, Weak.refl _ _⟩, trivial⟩
        ·exact ⟨bk rfl rfl, bk rfl rfl, bk rfl rfl, bk rfl rfl, bk rfl rfl, bk rfl rfl, bk rfl rfl, bk rfl rfl, bk rfl rfl, bk rfl rfl, trivial⟩
        refine If.mk (fun hz => ?_) (fun hz => ?_)
        case' refine_1 =>
         have hm : m1 = false := (mz1 m0 m1 m2 m3 m4 m5).1 hz
         by_cases hcl : cl (2, 0) = cl (0, 0)
         case' pos =>
          refine CallG.at (.lit (.bool true)) (fun H hH => ?_) ?_
          ·obtain ⟨H2, rfl⟩ := hH.first3 (b := b) (cl := cl) ⟨bk rfl rfl, bk rfl rfl, bk rfl rfl, trivial⟩
           exact c_alY (by decide) (by decide) h2 ga h0 gb hcl H2
          refine ifN ?_
          refine ⟨_, _, rfl, rfl, ?_⟩
          have e0 : okS cl m1 2 0 p2 p0 = true := by simp [okS, hcl]
         case' neg =>
          refine CallG.at (.lit (.bool false)) (fun H hH => ?_) ?_
          ·obtain ⟨H2, rfl⟩ := hH.first3 (b := b) (cl := cl) ⟨bk rfl rfl, bk rfl rfl, bk rfl rfl, trivial⟩
           exact c_alN (by decide) (by decide) h2 ga h0 gb hcl H2
          refine ifY ?_
          refine ⟨_, _, rfl, rfl, ?_⟩
          refine ifY ?_
          refine ⟨leb rfl, leb rfl, .inl ⟨.inl rfl, _, rfl, rfl, _, _, rfl, (fun e => by cases e), rfl, .inl rfl, leb rfl, FinP.mk _ rfl rfl ?_⟩⟩
          have e0 : okS cl m1 2 0 p2 p0 = false := by simp [okS, ga, gb, hm, hcl]
          show AV.lit (.bool false) = nb (skB cl p0 p1 p2 p3 m0 m1 m2 m3 m4 m5 6)
          simp [skB, e0, nb]
        case' refine_2 =>
         have hm : m1 = true := by
          have h := fun e => hz ((mz1 m0 m1 m2 m3 m4 m5).2 e)
          revert h
          cases m1 <;> simp
         refine ifN ?_
         refine ⟨_, _, rfl, rfl, ?_⟩
         have e0 : okS cl m1 2 0 p2 p0 = true := by simp [okS, hm]
     case' inr.inl =>
      refine If.mk (fun _ => ?_) (fun h => absurd (by decide) h)
      refine ifY ?_
      refine If.mk (fun ga => ?_) (fun ga => ?_)
      case' refine_2 => have e0 : okS cl m2 2 1 p2 p1 = true := by simp [okS, ga]
      case' refine_1 =>
       refine If.mk (fun gb => ?_) (fun gb => ?_)
       case' refine_2 => have e0 : okS cl m2 2 1 p2 p1 = true := by simp [okS, gb]
       case' refine_1 =>
        refine RoundG.fresh (n0 := 9) (sdL b cl p0 p1 p2 p3 m0 m1 m2 m3 m4 m5 .ready) rfl ?_ ?_
        ·exact ⟨bk rfl rfl, bk rfl rfl, bk rfl rfl, bk rfl rfl, bk rfl rfl, bk rfl rfl, bk rfl rfl, bk rfl rfl, bk rfl rfl, trivial⟩
        refine RoundG.introF (m := false) mixed rfl rfl (by decide) ?_
        refine ⟨rfl, _, rfl, rfl, [(2, .ptr 3 0), (3, .ptr 4 0), (4, .ptr 5 0), (5, n' (2 : Nat)), (6, .ptr 9 0)], sdL b cl p0 p1 p2 p3 m0 m1 m2 m3 m4 m5 .busy ++ [(9, .box [n' (2 : Nat), n' (1 : Nat)] 141)], 10, rfl, ?_, ?_, ?_⟩
        ·exact ⟨⟨_, rfl, Weak.refl _ _⟩, ⟨_, rfl, Weak.refl _ _⟩, ⟨_, rfl, Weak.refl _ _⟩, ⟨_, rfl, Weak.refl _ _⟩, ⟨_, rfl, Weak.refl _ _⟩, trivial⟩
        ·exact ⟨bk rfl rfl, bk rfl rfl, bk rfl rfl, bk rfl rfl, bk rfl rfl, bk rfl rfl, bk rfl rfl, bk rfl rfl, bk rfl rfl, bk rfl rfl, trivial⟩
        refine If.mk (fun hz => ?_) (fun hz => ?_)
        case' refine_1 =>
         have hm : m2 = false := (mz2 m0 m1 m2 m3 m4 m5).1 hz
         by_cases hcl : cl (2, 0) = cl (1, 0)
         case' pos =>
          refine CallG.at (.lit (.bool true)) (fun H hH => ?_) ?_
          ·obtain ⟨H2, rfl⟩ := hH.first3 (b := b) (cl := cl) ⟨bk rfl rfl, bk rfl rfl, bk rfl rfl, trivial⟩
           exact c_alY (by decide) (by decide) h2 ga h1 gb hcl H2
          refine ifN ?_
          refine ⟨_, _, rfl, rfl, ?_⟩
          have e0 : okS cl m2 2 1 p2 p1 = true := by simp [okS, hcl]
         case' neg =>
          refine CallG.at (.lit (.bool false)) (fun H hH => ?_) ?_
          ·obtain ⟨H2, rfl⟩ := hH.first3 (b := b) (cl := cl) ⟨bk rfl rfl, bk rfl rfl, bk rfl rfl, trivial⟩
           exact c_alN (by decide) (by decide) h2 ga h1 gb hcl H2
          refine ifY ?_
          refine ⟨_, _, rfl, rfl, ?_⟩
          refine ifY ?_
          refine ⟨leb rfl, leb rfl, .inl ⟨.inl rfl, _, rfl, rfl, _, _, rfl, (fun e => by cases e), rfl, .inl rfl, leb rfl, FinP.mk _ rfl rfl ?_⟩⟩
          have e0 : okS cl m2 2 1 p2 p1 = false := by simp [okS, ga, gb, hm, hcl]
          show AV.lit (.bool false) = nb (skB cl p0 p1 p2 p3 m0 m1 m2 m3 m4 m5 6)
          simp [skB, e0, nb]
        case' refine_2 =>
         have hm : m2 = true := by
          have h := fun e => hz ((mz2 m0 m1 m2 m3 m4 m5).2 e)
          revert h
          cases m2 <;> simp
         refine ifN ?_
         refine ⟨_, _, rfl, rfl, ?_⟩
         have e0 : okS cl m2 2 1 p2 p1 = true := by simp [okS, hm]
     case' inr.inr =>
      refine If.mk (fun h => absurd h (by decide)) (fun _ => ?_)
      refine ifN ?_
      refine ⟨leb rfl, ?_⟩
      refine Side.mk (fits64 (by omega)) ?_
      refine ⟨leb rfl, rfl, by omega, hJ, ⟨wp rfl (ltb rfl), wp rfl (ltb rfl), wp rfl trivial, wp rfl trivial, trivial⟩, ?_, ?_⟩
      ·exact ⟨bk rfl rfl, bk rfl rfl, bk rfl rfl, bk rfl rfl, bk rfl rfl, bk rfl rfl, bk rfl rfl, bk rfl rfl, bk rfl rfl, trivial⟩
      ·exact ⟨⟨_, rfl, trivial, trivial⟩, ⟨_, rfl, under_posC _ _ _ _ _ _ _ _ _ _ _⟩, ⟨_, rfl, trivial⟩, ⟨sdB .ready, rfl, under_sdB _⟩, trivial⟩
     all_goals
      refine ifN ?_
      refine Side.mk (by unfold fitsK; kernel_rfl) ?_
      refine Side.mk (by unfold fitsK; kernel_rfl) ?_
      refine ⟨leb rfl, rfl, by omega, ?_, ⟨wp rfl (ltb rfl), wp rfl (ltb rfl), wp rfl trivial, wp rfl trivial, wp rfl trivial, wp rfl trivial, wp rfl trivial, trivial⟩, ?_, ?_⟩
      ·have hJ' := hJ
       simp [kk, skB, e0] at hJ' ⊢
       try simp [hJ']
      ·exact ⟨bk rfl rfl, bk rfl rfl, bk rfl rfl, bk rfl rfl, bk rfl rfl, bk rfl rfl, bk rfl rfl, bk rfl rfl, bk rfl rfl, trivial⟩
      ·first | trivial | exact ⟨⟨sdB .ready, rfl, under_sdB _⟩, trivial⟩
   ·refine If.mk (fun _ => ?_) (fun h => absurd (by decide) h)
    refine ifY ?_
    refine LoopG.at (n0 := 9) rfl (loop_up mixed (m := false) (fun r => [(0, .yld 8), (1, .ptr 6 0), (3, n' (kk 3 + r : Nat)), (4, n' (3 : Nat)), (6, n' (3 : Nat)), (9, n' (3 : Nat)), (10, n' r)]) (fun _ => sdL b cl p0 p1 p2 p3 m0 m1 m2 m3 m4 m5 .ready) (fun r => skB cl p0 p1 p2 p3 m0 m1 m2 m3 m4 m5 (kk 3 + r) = true) 3 5 (leb rfl) hI ?_ ?_ ?_)
    ·exact ⟨wp rfl (ltb rfl), wp rfl (ltb rfl), wp rfl trivial, wp rfl trivial, wp rfl trivial, wp rfl trivial, wp rfl trivial, trivial⟩
    ·exact ⟨bk rfl rfl, bk rfl rfl, bk rfl rfl, bk rfl rfl, bk rfl rfl, bk rfl rfl, bk rfl rfl, bk rfl rfl, bk rfl rfl, trivial⟩
    ·intro r hr hJ
     have hr4 : r = 0 ∨ r = 1 ∨ r = 2 ∨ r = 3 := by omega
     rcases hr4 with rfl | rfl | rfl | rfl
     case' inl =>
      refine If.mk (fun _ => ?_) (fun h => absurd (by decide) h)
      refine ifY ?_
      refine If.mk (fun ga => ?_) (fun ga => ?_)
      case' refine_2 => have e0 : okS cl m3 3 0 p3 p0 = true := by simp [okS, ga]
      case' refine_1 =>
       refine If.mk (fun gb => ?_) (fun gb => ?_)
       case' refine_2 => have e0 : okS cl m3 3 0 p3 p0 = true := by simp [okS, gb]
       case' refine_1 =>
        refine RoundG.fresh (n0 := 9) (sdL b cl p0 p1 p2 p3 m0 m1 m2 m3 m4 m5 .ready) rfl ?_ ?_
        ·exact ⟨bk rfl rfl, bk rfl rfl, bk rfl rfl, bk rfl rfl, bk rfl rfl, bk rfl rfl, bk rfl rfl, bk rfl rfl, bk rfl rfl, trivial⟩
        refine RoundG.introF (m := false) mixed rfl rfl (by decide) ?_
        refine ⟨rfl, _, rfl, rfl, [(2, .ptr 3 0), (3, .ptr 4 0), (4, .ptr 5 0), (5, n' (3 : Nat)), (6, .ptr 9 0)], sdL b cl p0 p1 p2 p3 m0 m1 m2 m3 m4 m5 .busy ++ [(9, .box [n' (3 : Nat), n' (0 : Nat)] 141)], 10, rfl, ?_, ?_, ?_⟩
        ·exact ⟨⟨_, rfl, Weak.refl _ _⟩, ⟨_, rfl, Weak.refl _ _⟩, ⟨_, rfl, Weak.refl _ _⟩, ⟨_, rfl, Weak.refl _ _⟩, ⟨_, rfl, Weak.refl _ _⟩, trivial⟩
        ·exact ⟨bk rfl rfl, bk rfl rfl, bk rfl rfl, bk rfl rfl, bk rfl rfl, bk rfl rfl, bk rfl rfl, bk rfl rfl, bk rfl rfl, bk rfl rfl, trivial⟩
        refine If.mk (fun hz => ?_) (fun hz => ?_)
        case' refine_1 =>
         have hm : m3 = false := (mz3 m0 m1 m2 m3 m4 m5).1 hz
         by_cases hcl : cl (3, 0) = cl (0, 0)
         case' pos =>
          refine CallG.at (.lit (.bool true)) (fun H hH => ?_) ?_
          ·obtain ⟨H2, rfl⟩ := hH.first3 (b := b) (cl := cl) ⟨bk rfl rfl, bk rfl rfl, bk rfl rfl, trivial⟩
           exact c_alY (by decide) (by decide) h3 ga h0 gb hcl H2
          refine ifN ?_
          refine ⟨_, _, rfl, rfl, ?_⟩
          have e0 : okS cl m3 3 0 p3 p0 = true := by simp [okS, hcl]
         case' neg =>
          refine CallG.at (.lit (.bool false)) (fun H hH => ?_) ?_
          ·obtain ⟨H2, rfl⟩ := hH.first3 (b := b) (cl := cl) ⟨bk rfl rfl, bk rfl rfl, bk rfl rfl, trivial⟩
           exact c_alN (by decide) (by decide) h3 ga h0 gb hcl H2
          refine ifY ?_
          refine ⟨_, _, rfl, rfl, ?_⟩
          refine ifY ?_
          refine ⟨leb rfl, leb rfl, .inl ⟨.inl rfl, _, rfl, rfl, _, _, rfl, (fun e => by cases e), rfl, .inl rfl, leb rfl, FinP.mk _ rfl rfl ?_⟩⟩
          have e0 : okS cl m3 3 0 p3 p0 = false := by simp [okS, ga, gb, hm, hcl]
          show AV.lit (.bool false) = nb (skB cl p0 p1 p2 p3 m0 m1 m2 m3 m4 m5 6)
          simp [skB, e0, nb]
        case' refine_2 =>
         have hm : m3 = true := by
          have h := fun e => hz ((mz3 m0 m1 m2 m3 m4 m5).2 e)
          revert h
          cases m3 <;> simp
         refine ifN ?_
         refine ⟨_, _, rfl, rfl, ?_⟩
         have e0 : okS cl m3 3 0 p3 p0 = true := by simp [okS, hm]
     case' inr.inl =>
      refine If.mk (fun _ => ?_) (fun h => absurd (by decide) h)
      refine ifY ?_
      refine If.mk (fun ga => ?_) (fun ga => ?_)
      case' refine_2 => have e0 : okS cl m4 3 1 p3 p1 = true := by simp [okS, ga]
      case' refine_1 =>
       refine If.mk (fun gb => ?_) (fun gb => ?_)
       case' refine_2 => have e0 : okS cl m4 3 1 p3 p1 = true := by simp [okS, gb]
       case' refine_1 =>
        refine RoundG.fresh (n0 := 9) (sdL b cl p0 p1 p2 p3 m0 m1 m2 m3 m4 m5 .ready) rfl ?_ ?_
        ·exact ⟨bk rfl rfl, bk rfl rfl, bk rfl rfl, bk rfl rfl, bk rfl rfl, bk rfl rfl, bk rfl rfl, bk rfl rfl, bk rfl rfl, trivial⟩
        refine RoundG.introF (m := false) mixed rfl rfl (by decide) ?_
        refine ⟨rfl, _, rfl, rfl, [(2, .ptr 3 0), (3, .ptr 4 0), (4, .ptr 5 0), (5, n' (4 : Nat)), (6, .ptr 9 0)], sdL b cl p0 p1 p2 p3 m0 m1 m2 m3 m4 m5 .busy ++ [(9, .box [n' (3 : Nat), n' (1 : Nat)] 141)], 10, rfl, ?_, ?_, ?_⟩
        ·exact ⟨⟨_, rfl, Weak.refl _ _⟩, ⟨_, rfl, Weak.refl _ _⟩, ⟨_, rfl, Weak.refl _ _⟩, ⟨_, rfl, Weak.refl _ _⟩, ⟨_, rfl, Weak.refl _ _⟩, trivial⟩
        ·exact ⟨bk rfl rfl, bk rfl rfl, bk rfl rfl, bk rfl rfl, bk rfl rfl, bk rfl rfl, bk rfl rfl, bk rfl rfl, bk rfl rfl, bk rfl rfl, trivial⟩
        refine If.mk (fun hz => ?_) (fun hz => ?_)
        case' refine_1 =>
         have hm : m4 = false := (mz4 m0 m1 m2 m3 m4 m5).1 hz
         by_cases hcl : cl (3, 0) = cl (1, 0)
         case' pos =>
          refine CallG.at (.lit (.bool true)) (fun H hH => ?_) ?_
          ·obtain ⟨H2, rfl⟩ := hH.first3 (b := b) (cl := cl) ⟨bk rfl rfl, bk rfl rfl, bk rfl rfl, trivial⟩
           exact c_alY (by decide) (by decide) h3 ga h1 gb hcl H2
          refine ifN ?_
          refine ⟨_, _, rfl, rfl, ?_⟩
          have e0 : okS cl m4 3 1 p3 p1 = true := by simp [okS, hcl]
         case' neg =>
          refine CallG.at (.lit (.bool false)) (fun H hH => ?_) ?_
          ·obtain ⟨H2, rfl⟩ := hH.first3 (b := b) (cl := cl) ⟨bk rfl rfl, bk rfl rfl, bk rfl rfl, trivial⟩
           exact c_alN (by decide) (by decide) h3 ga h1 gb hcl H2
          refine ifY ?_
          refine ⟨_, _, rfl, rfl, ?_⟩
          refine ifY ?_
          refine ⟨leb rfl, leb rfl, .inl ⟨.inl rfl, _, rfl, rfl, _, _, rfl, (fun e => by cases e), rfl, .inl rfl, leb rfl, FinP.mk _ rfl rfl ?_⟩⟩
          have e0 : okS cl m4 3 1 p3 p1 = false := by simp [okS, ga, gb, hm, hcl]
          show AV.lit (.bool false) = nb (skB cl p0 p1 p2 p3 m0 m1 m2 m3 m4 m5 6)
          simp [skB, e0, nb]
        case' refine_2 =>
         have hm : m4 = true := by
          have h := fun e => hz ((mz4 m0 m1 m2 m3 m4 m5).2 e)
          revert h
          cases m4 <;> simp
         refine ifN ?_
         refine ⟨_, _, rfl, rfl, ?_⟩
         have e0 : okS cl m4 3 1 p3 p1 = true := by simp [okS, hm]
     case' inr.inr.inl =>
      refine If.mk (fun _ => ?_) (fun h => absurd (by decide) h)
      refine ifY ?_
      refine If.mk (fun ga => ?_) (fun ga => ?_)
      case' refine_2 => have e0 : okS cl m5 3 2 p3 p2 = true := by simp [okS, ga]
      case' refine_1 =>
       refine If.mk (fun gb => ?_) (fun gb => ?_)
       case' refine_2 => have e0 : okS cl m5 3 2 p3 p2 = true := by simp [okS, gb]
       case' refine_1 =>
        refine RoundG.fresh (n0 := 9) (sdL b cl p0 p1 p2 p3 m0 m1 m2 m3 m4 m5 .ready) rfl ?_ ?_
        ·exact ⟨bk rfl rfl, bk rfl rfl, bk rfl rfl, bk rfl rfl, bk rfl rfl, bk rfl rfl, bk rfl rfl, bk rfl rfl, bk rfl rfl, trivial⟩
        refine RoundG.introF (m := false) mixed rfl rfl (by decide) ?_
        refine ⟨rfl, _, rfl, rfl, [(2, .ptr 3 0), (3, .ptr 4 0), (4, .ptr 5 0), (5, n' (5 : Nat)), (6, .ptr 9 0)], sdL b cl p0 p1 p2 p3 m0 m1 m2 m3 m4 m5 .busy ++ [(9, .box [n' (3 : Nat), n' (2 : Nat)] 141)], 10, rfl, ?_, ?_, ?_⟩
        ·exact ⟨⟨_, rfl, Weak.refl _ _⟩, ⟨_, rfl, Weak.refl _ _⟩, ⟨_, rfl, Weak.refl _ _⟩, ⟨_, rfl, Weak.refl _ _⟩, ⟨_, rfl, Weak.refl _ _⟩, trivial⟩
        ·exact ⟨bk rfl rfl, bk rfl rfl, bk rfl rfl, bk rfl rfl, bk rfl rfl, bk rfl rfl, bk rfl rfl, bk rfl rfl, bk rfl rfl, bk rfl rfl, trivial⟩
        refine If.mk (fun hz => ?_) (fun hz => ?_)
        case' refine_1 =>
         have hm : m5 = false := (mz5 m0 m1 m2 m3 m4 m5).1 hz
         by_cases hcl : cl (3, 0) = cl (2, 0)
         case' pos =>
          refine CallG.at (.lit (.bool true)) (fun H hH => ?_) ?_
          ·obtain ⟨H2, rfl⟩ := hH.first3 (b := b) (cl := cl) ⟨bk rfl rfl, bk rfl rfl, bk rfl rfl, trivial⟩
           exact c_alY (by decide) (by decide) h3 ga h2 gb hcl H2
          refine ifN ?_
          refine ⟨_, _, rfl, rfl, ?_⟩
          have e0 : okS cl m5 3 2 p3 p2 = true := by simp [okS, hcl]
         case' neg =>
          refine CallG.at (.lit (.bool false)) (fun H hH => ?_) ?_
          ·obtain ⟨H2, rfl⟩ := hH.first3 (b := b) (cl := cl) ⟨bk rfl rfl, bk rfl rfl, bk rfl rfl, trivial⟩
           exact c_alN (by decide) (by decide) h3 ga h2 gb hcl H2
          refine ifY ?_
          refine ⟨_, _, rfl, rfl, ?_⟩
          refine ifY ?_
          refine ⟨leb rfl, leb rfl, .inl ⟨.inl rfl, _, rfl, rfl, _, _, rfl, (fun e => by cases e), rfl, .inl rfl, leb rfl, FinP.mk _ rfl rfl ?_⟩⟩
          have e0 : okS cl m5 3 2 p3 p2 = false := by simp [okS, ga, gb, hm, hcl]
          show AV.lit (.bool false) = nb (skB cl p0 p1 p2 p3 m0 m1 m2 m3 m4 m5 6)
          simp [skB, e0, nb]
        case' refine_2 =>
         have hm : m5 = true := by
          have h := fun e => hz ((mz5 m0 m1 m2 m3 m4 m5).2 e)
          revert h
          cases m5 <;> simp
         refine ifN ?_
         refine ⟨_, _, rfl, rfl, ?_⟩
         have e0 : okS cl m5 3 2 p3 p2 = true := by simp [okS, hm]
     case' inr.inr.inr =>
      refine If.mk (fun h => absurd h (by decide)) (fun _ => ?_)
      refine ifN ?_
      refine ⟨leb rfl, ?_⟩
      refine Side.mk (fits64 (by omega)) ?_
      refine ⟨leb rfl, rfl, by omega, hJ, ⟨wp rfl (ltb rfl), wp rfl (ltb rfl), wp rfl trivial, wp rfl trivial, trivial⟩, ?_, ?_⟩
      ·exact ⟨bk rfl rfl, bk rfl rfl, bk rfl rfl, bk rfl rfl, bk rfl rfl, bk rfl rfl, bk rfl rfl, bk rfl rfl, bk rfl rfl, trivial⟩
      ·exact ⟨⟨_, rfl, trivial, trivial⟩, ⟨_, rfl, under_posC _ _ _ _ _ _ _ _ _ _ _⟩, ⟨_, rfl, trivial⟩, ⟨sdB .ready, rfl, under_sdB _⟩, trivial⟩
     all_goals
      refine ifN ?_
      refine Side.mk (by unfold fitsK; kernel_rfl) ?_
      refine Side.mk (by unfold fitsK; kernel_rfl) ?_
      refine ⟨leb rfl, rfl, by omega, ?_, ⟨wp rfl (ltb rfl), wp rfl (ltb rfl), wp rfl trivial, wp rfl trivial, wp rfl trivial, wp rfl trivial, wp rfl trivial, trivial⟩, ?_, ?_⟩
      ·have hJ' := hJ
       simp [kk, skB, e0] at hJ' ⊢
       try simp [hJ']
      ·exact ⟨bk rfl rfl, bk rfl rfl, bk rfl rfl, bk rfl rfl, bk rfl rfl, bk rfl rfl, bk rfl rfl, bk rfl rfl, bk rfl rfl, trivial⟩
      ·first | trivial | exact ⟨⟨sdB .ready, rfl, under_sdB _⟩, trivial⟩
   ·refine If.mk (fun h => absurd h (by decide)) (fun _ => ?_)
    refine ifN ?_
    refine ⟨leb rfl, ?_⟩
    refine .inl ⟨.inr rfl, _, rfl, rfl, ?_⟩
    refine ⟨_, _, rfl, (fun e => by cases e), rfl, ?_⟩
    refine ⟨.inl rfl, leb rfl, FinP.mk _ rfl rfl ?_⟩
    have hI' : skB cl p0 p1 p2 p3 m0 m1 m2 m3 m4 m5 6 = true := hI
    rw [hI']
    rfl
set_option maxRecDepth 100000 in
theorem c_setDone {b : Book} {cl : Sta → Nat} {p0 p1 p2 p3 : Int} (h0 : PosOk b.vs 0 p0) (h1 : PosOk b.vs 1 p1) (h2 : PosOk b.vs 2 p2) (h3 : PosOk b.vs 3 p3) (m0 m1 m2 m3 m4 m5 : Bool) (H2 : List Blk) :
  ACall Tryz.prog 114 [.agg (posC p0 p1 p2 p3 m0 m1 m2 m3 m4 m5), .ptr 3 0] (setlH b cl ++ H2) (.ret (nb (skB cl p0 p1 p2 p3 m0 m1 m2 m3 m4 m5 6))) (setlH b cl ++ H2) := by
 refine fn_pre (m := false) (fn := Tryz.f114) (c := (Tryz.f114.body).getD .skip) (t0 := ofL (setlL b cl)) (n0 := 4) mixed (by kernel_rfl) (by kernel_rfl) (of_decide_eq_true (by kernel_rfl)) (HT.full (l := setlL b cl) ⟨rfl, rfl, rfl, rfl, trivial⟩ rfl) ?_ (setlH_under b cl) rfl ?_ H2
 ·exact ⟨under_posC 4 _ _ _ _ _ _ _ _ _ _, ltb rfl, trivial⟩
 refine CallG.at (nb (skB cl p0 p1 p2 p3 m0 m1 m2 m3 m4 m5 6)) (fun H hH => ?_) ?_
 ·obtain ⟨H2, rfl⟩ := hH.first3 (b := b) (cl := cl) ⟨bk rfl rfl, bk rfl rfl, bk rfl rfl, trivial⟩
  exact c_setTold h0 h1 h2 h3 m0 m1 m2 m3 m4 m5 H2
 exact ⟨.inl rfl, leb rfl, FinF.mk _ rfl rfl rfl⟩
end Go.Vm

namespace Go.Vm
open Go.Proofs
abbrev nxS' : AV := .fn (.func 113) [] [.ptr 0 0]
abbrev dnS' : AV := .fn (.func 114) [] [.ptr 3 0]
def doneK (cl : Sta → Nat) (p : Pos) : Bool := skB cl p.1.1 p.1.2.1 p.1.2.2.1 p.1.2.2.2 p.2.1 p.2.2.1 p.2.2.2.1 p.2.2.2.2.1 p.2.2.2.2.2.1 p.2.2.2.2.2.2 6
theorem wk_begin6 {t : Trie Blk} {st : Pos} (hr : get t 6 = some (.row 0)) : Weak t (.sl 1 (posA st ++ [.lit (.slice none 0 0)]) .full) (.sl 1 (waysA [(st, [])]) (.own 6 0 6)) := fun n H hH O ι w c h => by
 have h1 := WeakH.fullOwnN (H := H) (r := 6) (len := 1) (sz := 6) (cells := posA st ++ [.lit (.slice none 0 0)]) rfl (hH.blk _ _ hr) O ι w c h
 exact wk_sl (Weaks.snoc (fun H => wk_nil H) (posA st)) O ι w c h1
set_option maxHeartbeats 8000000 in
set_option maxRecDepth 100000 in
theorem c_firstS {b : Book} {cl : Sta → Nat} {k : Nat} (hv : ∀ v ∈ b.vs, VersOk v k) (hk : b.cues = k) (hk4 : k ≤ 4) (hn : b.vs.length ≤ 4) (hs : Small b.vs) {st : Pos} (hst : PosK b.vs st) :
  ∃ v, (∃ o, v = firstV o ∧ Found (nextP b.vs) (fun p => doneK cl p = true) st k o) ∧ ∀ H2, ACall Tryz.prog 104 [.agg (posA st), n' b.cues, nxS', dnS'] (setlH b cl ++ H2) (.ret v) (setlH b cl ++ H2) := by
 refine fn_preE (m := false) (fn := Tryz.f104) (c := (Tryz.f104.body).getD .skip) (t0 := ofL (setlL b cl)) (n0 := 4) _ mixed (by kernel_rfl) (by kernel_rfl) (of_decide_eq_true (by kernel_rfl)) (HT.full (l := setlL b cl) ⟨rfl, rfl, rfl, rfl, trivial⟩ rfl) ?_ (setlH_under b cl) ?_
 ·exact ⟨under_posA 4 _, trivial, ⟨trivial, ltb rfl, trivial⟩, ⟨trivial, ltb rfl, trivial⟩, trivial⟩
 ·refine Ex.mk _ (aop_update (p := st) (met := []) (id := 5) (.inr rfl) rfl rfl rfl rfl (hst.posS hs) (by simp)) ?_
  refine LoopG.ghost (LoopG.at (n0 := 7) rfl ?_)
  refine loop_r mixed (m := false) (α := { s : Bf // (∃ proc, InvO (nextP b.vs) (fun p => doneK cl p = true) st k s.q s.met proc) ∧ Bd b.vs s }) (fun a => [(1, n' b.cues), (2, nxS'), (3, dnS'), (10, .mp 5), (11, .sl a.1.q.length (waysA a.1.q) (.own 6 a.1.g 6))]) (fun a => setlL b cl ++ [(5, .map (.arr 5) (metE a.1.met)), (6, .row a.1.g)]) (fun a => a.1.q.length + (40000 - a.1.met.length)) 5
   ⟨⟨[(st, [])], [st], 0⟩, ⟨_, InvO.begin⟩, ⟨by simp, fun p hp => ?_, by simp, fun w hw => ?_⟩⟩ (leb rfl) ?_ ?_ ?_
  ·rw [List.mem_singleton] at hp; subst hp; exact hst
  ·rw [List.mem_singleton] at hw; subst hw; exact ⟨by simp, hst⟩
  ·exact ⟨wp rfl trivial, ⟨_, rfl, Weak.refl _ _, trivial, ltb rfl, trivial⟩, ⟨_, rfl, Weak.refl _ _, trivial, ltb rfl, trivial⟩, wp rfl (ltb rfl), ⟨_, rfl, wk_begin6 rfl, under_waysA _ _, ltb rfl⟩, trivial⟩
  ·exact ⟨bk rfl rfl, bk rfl rfl, bk rfl rfl, bk rfl rfl, bk rfl rfl, bk rfl rfl, trivial⟩
  ·rintro ⟨⟨q, met, g⟩, ⟨proc, hI⟩, hb⟩
   have hml := hb.le hs
   cases q with
   | nil =>
    refine If.mk (fun h => absurd h (by show ¬ ((0 : Int) < 0); decide)) (fun _ => ?_)
    refine ifN ?_
    refine ⟨leb rfl, ?_⟩
    exact ⟨.inl rfl, leb rfl, rfl, _, firstV none, rfl, (fun H => wk_tup2F (wk_nil H)), under_firstV _ _, none, rfl, hI.nothing⟩
   | cons w q =>
    obtain ⟨x, l⟩ := w
    refine If.mk (fun _ => ?_) (fun h => absurd (by rw [List.length_cons]; omega) h)
    refine ifY ?_
    refine Ex.mk _ (jx_way) ?_
    refine Ex.mk _ rfl ?_
    refine Ex.mk _ (aop_sliceW (w := (x, l)) (q := q) rfl rfl rfl) ?_
    obtain ⟨hb1, hb2, hb3, hb4⟩ := hb
    have hb2 : ∀ p ∈ met, PosK b.vs p := hb2
    have hb1 : met.Nodup := hb1
    have hb3 : ((x, l) :: q).length ≤ met.length := hb3
    have hb4 : ∀ w ∈ (x, l) :: q, w.2.length < met.length ∧ PosK b.vs w.1 := hb4
    have hml : met.length ≤ 40000 := hml
    have hI : InvO (nextP b.vs) (fun p => doneK cl p = true) st k ((x, l) :: q) met proc := hI
    obtain ⟨hlx, hPx⟩ := hb4 (x, l) (by simp)
    have hlx : l.length < met.length := hlx
    have hPx : PosK b.vs x := hPx
    refine CallG.at (nb (doneK cl x)) (fun H hH => ?_) ?_
    ·obtain ⟨H2, rfl⟩ := hH.first4 ⟨bk rfl rfl, bk rfl rfl, bk rfl rfl, bk rfl rfl, trivial⟩
     exact c_setDone hPx.1 hPx.2.1 hPx.2.2.1 hPx.2.2.2 _ _ _ _ _ _ H2
    refine IfB.mk (fun hd => ?_) (fun hd => ?_)
    ·exact ⟨leb rfl, .inl rfl, leb rfl, rfl, _, firstV (some l), rfl, (fun H => WeakH.refl _ H), under_firstV _ _, some l, rfl, hI.found hd⟩
    ·have hI0 := hI.take (by rw [hd]; decide)
     refine LoopG.at (n0 := 8) rfl (loop_up mixed (m := false) (fun r => [(1, n' b.cues), (2, nxS'), (3, dnS'), (10, .mp 5), (11, .sl (stpG (nextP b.vs) x l ⟨q, met, g⟩ r).q.length (waysA (stpG (nextP b.vs) x l ⟨q, met, g⟩ r).q) (.own 6 (stpG (nextP b.vs) x l ⟨q, met, g⟩ r).g 6)), (12, .ptr 7 0), (35, n' b.cues), (36, n' r)])
      (fun r => setlL b cl ++ [(5, .map (.arr 5) (metE (stpG (nextP b.vs) x l ⟨q, met, g⟩ r).met)), (6, .row (stpG (nextP b.vs) x l ⟨q, met, g⟩ r).g), (7, .box (wayA (x, l)) 191)])
      (fun r => InvI (nextP b.vs) (fun p => doneK cl p = true) st k x l r (stpG (nextP b.vs) x l ⟨q, met, g⟩ r).q (stpG (nextP b.vs) x l ⟨q, met, g⟩ r).met proc ∧ Bd b.vs (stpG (nextP b.vs) x l ⟨q, met, g⟩ r) ∧ (stpG (nextP b.vs) x l ⟨q, met, g⟩ r).q.length + met.length = q.length + (stpG (nextP b.vs) x l ⟨q, met, g⟩ r).met.length ∧ l.length < (stpG (nextP b.vs) x l ⟨q, met, g⟩ r).met.length)
      k 5 (leb rfl) ⟨hI0, ⟨hb1, hb2, ?_, fun w hw => hb4 w (List.mem_cons_of_mem _ hw)⟩, rfl, hlx⟩ ?_ ?_ ?_)
     ·rw [List.length_cons] at hb3; show q.length ≤ met.length; omega
     ·exact ⟨wp rfl trivial, ⟨_, rfl, Weak.refl _ _, trivial, ltb rfl, trivial⟩, ⟨_, rfl, Weak.refl _ _, trivial, ltb rfl, trivial⟩, wp rfl (ltb rfl), ⟨_, rfl, Weak.refl _ _, under_waysA _ _, ltb rfl⟩, wp rfl (ltb rfl), wp rfl trivial, wp rfl trivial, trivial⟩
     ·exact ⟨bk rfl rfl, bk rfl rfl, bk rfl rfl, bk rfl rfl, bk rfl rfl, bk rfl rfl, bk rfl rfl, trivial⟩
     ·intro r hr hJ
      obtain ⟨hJ1, hJ2, hJ3, hJ4⟩ := hJ
      have hstp : stpG (nextP b.vs) x l ⟨q, met, g⟩ (r + 1) = if nextP b.vs x r ∈ (stpG (nextP b.vs) x l ⟨q, met, g⟩ r).met then stpG (nextP b.vs) x l ⟨q, met, g⟩ r else ⟨(stpG (nextP b.vs) x l ⟨q, met, g⟩ r).q ++ [(nextP b.vs x r, l ++ [r])], (stpG (nextP b.vs) x l ⟨q, met, g⟩ r).met ++ [nextP b.vs x r], (stpG (nextP b.vs) x l ⟨q, met, g⟩ r).g + 1⟩ := rfl
      have hke : k = 0 ∨ stpG (nextP b.vs) x l ⟨q, met, g⟩ k = stpG (nextP b.vs) x l ⟨q, met, g⟩ k := .inr rfl
      generalize hsr : stpG (nextP b.vs) x l ⟨q, met, g⟩ r = s at hJ1 hJ2 hJ3 hJ4 hstp ⊢
      obtain ⟨q1, met1, g1⟩ := s
      have hml1 : met1.length ≤ 40000 := hJ2.le hs
      obtain ⟨hn1, hn2, hn3, hn4⟩ := hJ2
      have hn1 : met1.Nodup := hn1
      have hn2 : ∀ p ∈ met1, PosK b.vs p := hn2
      have hn3 : q1.length ≤ met1.length := hn3
      have hn4 : ∀ w ∈ q1, w.2.length < met1.length ∧ PosK b.vs w.1 := hn4
      have hJ1 : InvI (nextP b.vs) (fun p => doneK cl p = true) st k x l r q1 met1 proc := hJ1
      have hJ3 : q1.length + met.length = q.length + met1.length := hJ3
      have hJ4 : l.length < met1.length := hJ4
      refine If.mk (fun h1 => ?_) (fun h1 => ?_)
      ·refine ifY ?_
       have hrk : r < k := by omega
       have hPy : PosK b.vs (nextP b.vs x r) := hPx.next hv hrk
       refine CallG.at (.agg (posA (nextP b.vs x r))) (fun H hH => ?_) ?_
       ·obtain ⟨H2, rfl⟩ := hH.first4 ⟨bk rfl rfl, bk rfl rfl, bk rfl rfl, bk rfl rfl, trivial⟩
        exact c_setNext hv hrk hn hPx H2
       refine Ex.mk _ (aop_lookup (p := nextP b.vs x r) (met := met1) (id := 5) rfl rfl rfl rfl (hPy.posS hs)) ?_
       refine IfB.mk (fun hm => ?_) (fun hm => ?_)
       ·have hm' : nextP b.vs x r ∉ met1 := by simpa using hm
        refine Ex.mk _ (aop_update (p := nextP b.vs x r) (met := met1) (id := 5) (.inl rfl) rfl rfl rfl rfl (hPy.posS hs) hm') ?_
        have e3 : stpG (nextP b.vs) x l ⟨q, met, g⟩ (r + 1) = ⟨q1 ++ [(nextP b.vs x r, l ++ [r])], met1 ++ [nextP b.vs x r], g1 + 1⟩ := by rw [hstp]; exact if_neg hm'
        have hcl := cuesI_length l
        refine CallG.fresh (n0 := 21) [cuesA l] (setlL b cl ++ [(5, .map (.arr 5) (metE (met1 ++ [nextP b.vs x r]))), (6, .row g1), (7, .box (wayA (x, l)) 191), (8, .box (posA (nextP b.vs x r)) 130)]) rfl (.cons (fun H => WeakH.refl _ H) .nil) ?_ ?_
        ·exact ⟨bk rfl rfl, bk rfl rfl, bk rfl rfl, bk rfl rfl, bk rfl rfl, bk rfl rfl, bk rfl rfl, bk rfl rfl, trivial⟩
        refine CallG.cloneI (l := cuesI l) (by omega) (leb rfl) ?_
        refine ex_app _ _ (app_int (List.length_map _) (by omega) rfl) ?_
        refine ex_app _ _ (app_way (q := q1) (p := nextP b.vs x r) (by omega) rfl rfl) ?_
        refine Side.mk (fits64 (by omega)) ?_
        have hN := hJ1.new hrk hm'
        refine ⟨leb rfl, rfl, by omega, ?_, ⟨wp rfl trivial, ⟨_, rfl, Weak.refl _ _, trivial, ltb rfl, trivial⟩, ⟨_, rfl, Weak.refl _ _, trivial, ltb rfl, trivial⟩, wp rfl (ltb rfl), ⟨_, rfl, by rw [e3]; exact wk_way, under_waysA _ _, ltb rfl⟩, wp rfl (ltb rfl), wp rfl trivial, wp rfl trivial, trivial⟩, ⟨bk rfl rfl, bk rfl rfl, bk rfl rfl, bk rfl rfl, ⟨?_, ltb rfl⟩, ⟨?_, ltb rfl⟩, bk rfl rfl, trivial⟩, ⟨⟨_, rfl, under_metE _ _⟩, ⟨_, rfl, trivial⟩, ⟨_, rfl, unders_append (under_posA _ _) ⟨under_cuesA _ _, trivial⟩⟩, trivial⟩⟩
        ·simp only [e3]
         refine ⟨hN, ⟨?_, fun p hp => ?_, ?_, fun w hw => ?_⟩, ?_, ?_⟩
         ·show (met1 ++ [nextP b.vs x r]).Nodup
          rw [List.nodup_append]
          refine ⟨hn1, by simp, fun a ha c hc hac => ?_⟩
          rw [List.mem_singleton] at hc
          subst hc hac
          exact hm' ha
         ·rcases List.mem_append.1 hp with hp | hp
          ·exact hn2 p hp
          ·rw [List.mem_singleton] at hp; subst hp; exact hPy
         ·show (q1 ++ [_]).length ≤ (met1 ++ [_]).length
          rw [List.length_append, List.length_append]
          exact Nat.add_le_add_right hn3 1
         ·show w.2.length < (met1 ++ [nextP b.vs x r]).length ∧ _
          rw [List.length_append, List.length_singleton]
          rcases List.mem_append.1 hw with hw | hw
          ·obtain ⟨k1, k2⟩ := hn4 w hw
           exact ⟨by omega, k2⟩
          ·rw [List.mem_singleton] at hw; subst hw
           refine ⟨?_, hPy⟩
           show (l ++ [r]).length < _
           rw [List.length_append, List.length_singleton]
           omega
         ·show (q1 ++ [_]).length + met.length = q.length + (met1 ++ [_]).length
          rw [List.length_append, List.length_append, List.length_singleton, List.length_singleton]
          omega
         ·show l.length < (met1 ++ [_]).length
          rw [List.length_append]
          omega
        ·rw [e3]; rfl
        ·rw [e3]; rfl
       ·have hm' : nextP b.vs x r ∈ met1 := by simpa using hm
        have e3 : stpG (nextP b.vs) x l ⟨q, met, g⟩ (r + 1) = ⟨q1, met1, g1⟩ := by rw [hstp]; exact if_pos hm'
        refine Side.mk (fits64 (by omega)) ?_
        refine ⟨leb rfl, rfl, by omega, ?_, ⟨wp rfl trivial, ⟨_, rfl, Weak.refl _ _, trivial, ltb rfl, trivial⟩, ⟨_, rfl, Weak.refl _ _, trivial, ltb rfl, trivial⟩, wp rfl (ltb rfl), ⟨_, rfl, by rw [e3]; exact Weak.refl _ _, under_waysA _ _, ltb rfl⟩, wp rfl (ltb rfl), wp rfl trivial, wp rfl trivial, trivial⟩, ⟨bk rfl rfl, bk rfl rfl, bk rfl rfl, bk rfl rfl, ⟨?_, ltb rfl⟩, ⟨?_, ltb rfl⟩, bk rfl rfl, trivial⟩, trivial⟩
        ·simp only [e3]
         exact ⟨hJ1.old hm', ⟨hn1, hn2, hn3, hn4⟩, hJ3, hJ4⟩
        ·rw [e3]; rfl
        ·rw [e3]; rfl
      ·refine ifN ?_
       refine ⟨leb rfl, ?_⟩
       have er : r = k := by omega
       subst er
       refine ⟨leb rfl, rfl, ⟨⟨q1, met1, g1⟩, ⟨_, hJ1.over⟩, ⟨hn1, hn2, hn3, hn4⟩⟩, ?_, ⟨wp rfl trivial, ⟨_, rfl, Weak.refl _ _, trivial, ltb rfl, trivial⟩, ⟨_, rfl, Weak.refl _ _, trivial, ltb rfl, trivial⟩, wp rfl (ltb rfl), ⟨_, rfl, Weak.refl _ _, under_waysA _ _, ltb rfl⟩, trivial⟩, ⟨bk rfl rfl, bk rfl rfl, bk rfl rfl, bk rfl rfl, bk rfl rfl, bk rfl rfl, trivial⟩, ⟨⟨_, rfl, under_metE _ _⟩, ⟨_, rfl, trivial⟩, trivial⟩⟩
       show q1.length + (40000 - met1.length) < ((x, l) :: q).length + (40000 - met.length)
       rw [List.length_cons]
       omega
end Go.Vm

namespace Go.Vm
open Go.Proofs
theorem okS_iff {vs : List Vers} {K : Nat} {cl : Sta → Nat} (hcl : ∀ p ∈ allP vs, ∀ q ∈ allP vs, (cl p = cl q ↔ alS vs K p q)) {a b : Nat} {p q : Int} (m : Bool) (hp : PosOk vs a p) (hq : PosOk vs b q) : okS cl m a b p q = true ↔ pairS vs K m a b p q := by
 have key : ∀ {n : Nat} {x : Int}, PosOk vs n x → 0 ≤ x → (n, 0) ∈ allP vs := fun {n x} h h0 => by
  rcases h with rfl | ⟨_, h2, h3⟩
  ·omega
  ·refine allP_mem.2 ⟨h2, ?_⟩
   show 0 < (vs.getD n []).length
   omega
 unfold okS pairS
 by_cases h1 : 0 ≤ p
 ·by_cases h2 : 0 ≤ q
  ·have := hcl _ (key hp h1) _ (key hq h2)
   simp [h1, h2, this]
  ·simp [h2]
 ·simp [h1]
theorem doneK_iff {vs : List Vers} {K : Nat} {cl : Sta → Nat} (hcl : ∀ p ∈ allP vs, ∀ q ∈ allP vs, (cl p = cl q ↔ alS vs K p q)) {p : Pos} (hp : PosK vs p) : doneK cl p = true ↔ doneS vs K p := by
 obtain ⟨h0, h1, h2, h3⟩ := hp
 have e1 := okS_iff hcl p.2.1 h1 h0
 have e2 := okS_iff hcl p.2.2.1 h2 h0
 have e3 := okS_iff hcl p.2.2.2.1 h2 h1
 have e4 := okS_iff hcl p.2.2.2.2.1 h3 h0
 have e5 := okS_iff hcl p.2.2.2.2.2.1 h3 h1
 have e6 := okS_iff hcl p.2.2.2.2.2.2 h3 h2
 unfold doneK skB doneS
 rw [← e1, ← e2, ← e3, ← e4, ← e5, ← e6]
 simp
theorem pos_begin (vs : List Vers) (L : List Int) : posRun vs L [] = ((bgI L 0, bgI L 1, bgI L 2, bgI L 3), (false, false, false, false, false, false)) := by
 have e : ∀ a b, brB vs L [] a b = false := fun a b => by
  unfold brB
  exact decide_eq_false fun h => h.2.2 rfl
 unfold posRun
 simp only [e]
 rfl
set_option maxHeartbeats 4000000 in
set_option maxRecDepth 100000 in
theorem c_Settle {b : Book} (hl : BLen b) (hB : BOk b) {evs : List Evening} (hE : EvsOk b evs) (hne : remL b.vs evs b.vs.length ≠ []) :
  ∃ o, Found (nextP b.vs) (doneS b.vs b.cues.toNat) (posRun b.vs (remL b.vs evs b.vs.length) []) b.cues.toNat o ∧ ∀ H, ACall Tryz.prog 53 [eBook b, eEvenings evs] H (.ret (tellV o)) H := by
 have hbc := hB.1.1
 have hvn := hB.1.2.2
 unfold inI at hbc hvn
 have hv : ∀ v ∈ b.vs, VersOk v b.cues.toNat := fun v hv => (hB.2 v hv).vers.1
 have hv0 : ∀ v ∈ b.vs, 0 < v.length := fun v hv => (hB.2 v hv).vers.2
 have hs : Small b.vs := fun v hv => by
  have := (hB.2 v hv).2
  unfold inI at this
  omega
 have hL := remL_left (b := b) (by omega) evs
 have hRl := remL_length b.vs evs b.vs.length
 have hleft : ∀ H, ACall Tryz.prog 99 [eBook b, .lit (.bool true), eEvenings evs, eEvening ([], [])] H (.ret (.tup [eInts (remL b.vs evs b.vs.length), .lit (.int .i64 0)])) H := fun H => by
  have h1c := hB.1.1.1
  have hN : EvOk b ([], []) := ⟨⟨⟨by simp, fun c h => by cases h⟩, ⟨fun c h => (by cases h), (by simp)⟩⟩, rfl⟩
  have := c_left hl hB hE hN (by rw [remL_now]; exact hne) H
  rwa [remL_now] at this
 generalize remL b.vs evs b.vs.length = L at *
 obtain ⟨es, ⟨cl, rfl, hcb, hcl⟩, hmap⟩ := c_classes hB
 have hst : PosK b.vs (posRun b.vs L []) := ⟨er_ok hv hv0 hL (fun x hx => by cases hx) 0, er_ok hv hv0 hL (fun x hx => by cases hx) 1, er_ok hv hv0 hL (fun x hx => by cases hx) 2, er_ok hv hv0 hL (fun x hx => by cases hx) 3⟩
 obtain ⟨v, ⟨o, rfl, hF⟩, hc⟩ := c_firstS (b := b) (cl := cl) (k := b.cues.toNat) hv (by omega) (by omega) (by omega) hs hst
 have hF' := hF.congr (done' := doneS b.vs b.cues.toNat) fun l hl => by
  rw [run_pos hv hv0 hL.nat l hl]
  exact doneK_iff hcl ⟨er_ok hv hv0 hL hl 0, er_ok hv hv0 hL hl 1, er_ok hv hv0 hL hl 2, er_ok hv hv0 hL hl 3⟩
 rw [pos_begin] at hc
 refine ⟨o, hF', fun H => ?_⟩
 refine fn_rule (m := false) (fn := Tryz.f53) (c := (Tryz.f53.body).getD .skip) mixed (by kernel_rfl) (by kernel_rfl) (of_decide_eq_true (by kernel_rfl)) ?_ ?_ ?_ H
 ·exact ⟨under_eBook 0 _, under_eEvenings 0 _, trivial⟩
 ·exact under_tellV 0 _
 ·refine CallG.weak _ (.cons (fun H => WeakH.refl _ H) (.cons (fun H => WeakH.refl _ H) (.cons (fun H => WeakH.refl _ H) (.cons wk_ev0 .nil)))) hleft ?_
  refine If.mk (fun _ => ?_) (fun h => absurd (by decide) h)
  refine ifN ?_
  refine CallG.map hmap ?_
  refine CallG.weak _ (.cons (fun H => WeakH.tail _ _ _ H) (.nil)) (c_posBegun L (by omega)) ?_
  cases o with
  | none =>
   refine CallG.at (firstV none) (fun H hH => ?_) ?_
   ·obtain ⟨H2, rfl⟩ := hH.first4 (b := b) (cl := cl) ⟨bk rfl rfl, bk rfl rfl, bk rfl rfl, bk rfl rfl, trivial⟩
    exact hc H2
   refine ifY ?_
   exact ⟨.inl rfl, FinG.mk _ rfl rfl rfl⟩
  | some l =>
   refine CallG.at (firstV (some l)) (fun H hH => ?_) ?_
   ·obtain ⟨H2, rfl⟩ := hH.first4 (b := b) (cl := cl) ⟨bk rfl rfl, bk rfl rfl, bk rfl rfl, bk rfl rfl, trivial⟩
    exact hc H2
   refine ifN ?_
   refine ⟨.inl rfl, FinG.mk _ rfl rfl ?_⟩
   show AV.tup [AV.freeze _ (eInts (cuesI l)), _] = _
   rw [freeze_eInts]
   rfl
end Go.Vm
