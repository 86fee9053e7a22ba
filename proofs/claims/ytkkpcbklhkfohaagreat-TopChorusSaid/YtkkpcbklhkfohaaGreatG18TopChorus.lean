/-
  Texts of the proof, part 18: the machine, contracts of functions, plain laws. (Own work.)
-/
import Derived.Test.YtkkpcbklhkfohaaGreatG17TopChorus
import Derived.Test.YtkkpcbklhkfohaaGreatG15TopChorus
import Derived.Test.YtkkpcbklhkfohaaGreatG12TopChorus

namespace Go.Vm
open Go.Proofs
def btP (a b l : List Int) : Bool := decide (edL a l + edL l b = edL a b)
noncomputable def srBL0 (C : List (List Int)) (a b : List Int) (o : List (List Int)) : List (Nat × Blk) :=
 [(0, vbBox C), (1, .box [eInts a] 30), (2, .box [eInts b] 30), (3, .box [.sl o.length (o.map eInts) (.own 5 o.length 1)] 38), (4, vbBox C), (5, .row o.length), (6, .defd), (7, lpB Tryz.f33 .ready [(4, .ptr 1 0), (5, .ptr 2 0), (8, .ptr 3 0), (26, .fn (.func 140) [] [.ptr 4 0])] 6), (8, .box [.yld 7] 109), (9, .box [n' 3] 3), (10, .box [n' 0] 3), (11, .defd), (12, lpB Tryz.f140 .ready [(1, .ptr 4 0), (2, .ptr 8 0), (5, n' 0), (11, .fn (.func 179) [] [.ptr 10 0, .ptr 9 0])] 11), (13, .box [.yld 12] 109), (14, .box [.fn (.func 180) [] [.ptr 10 0, .ptr 13 0, .ptr 9 0, .ptr 14 0]] 109)]
theorem srBL0_numd (C : List (List Int)) (a b : List Int) (o : List (List Int)) : Numd 0 (srBL0 C a b o) := ⟨rfl, rfl, rfl, rfl, rfl, rfl, rfl, rfl, rfl, rfl, rfl, rfl, rfl, rfl, rfl, trivial⟩
theorem srBL0_marks (C : List (List Int)) (a b : List Int) (o o' : List (List Int)) : MarksL (srBL0 C a b o) (srBL0 C a b o') :=
 .cons (fun e => e) (.cons (fun e => e) (.cons (fun e => e) (.cons (fun e => by cases e) (.cons (fun e => e) (.cons (fun e => by cases e) (MarksL.same _))))))
theorem srBL0_under (C : List (List Int)) (a b : List Int) (o : List (List Int)) : ∀ q ∈ srBL0 C a b o, q.2.under 15 :=
 UnderL.mem (l := srBL0 C a b o) ⟨vbBox_under _ _, ⟨under_eInts _ _, trivial⟩, ⟨under_eInts _ _, trivial⟩, ⟨⟨unders_map (under_eInts _) _, ltb rfl⟩, trivial⟩, vbBox_under _ _, trivial, trivial, under_lpB ⟨ltb rfl, ltb rfl, ltb rfl, ⟨trivial, ltb rfl, trivial⟩, trivial⟩ (ltb rfl), ⟨ltb rfl, trivial⟩, ⟨trivial, trivial⟩, ⟨trivial, trivial⟩, trivial, under_lpB ⟨ltb rfl, ltb rfl, trivial, ⟨trivial, ltb rfl, ltb rfl, trivial⟩, trivial⟩ (ltb rfl), ⟨ltb rfl, trivial⟩, ⟨⟨trivial, ltb rfl, ltb rfl, ltb rfl, ltb rfl, trivial⟩, trivial⟩, trivial⟩
set_option maxHeartbeats 4000000 in
set_option maxRecDepth 100000 in
theorem c_srB00 (C : List (List Int)) (a b : List Int) (ha : LineOk a) (hb : LineOk b) {now : List Int} (hn : now.length = 0) (hl : LineOk now) {o : List (List Int)} (ho : o.length ≤ 1000000) :
  ACall Tryz.prog 180 (eInts now :: [.ptr 10 0, .ptr 13 0, .ptr 9 0, .ptr 14 0]) (hp (srBL0 C a b o)) (.ret (nb true)) (hp (srBL0 C a b (o ++ [now].filter (btP a b)))) := by
 refine fn_keep (m := false) (fn := Tryz.f180) (c := (Tryz.f180.body).getD .skip) (p := 15) mixed (by kernel_rfl) (by kernel_rfl) (of_decide_eq_true (by kernel_rfl)) rfl (srBL0_numd C a b _) (srBL0_numd C a b _) rfl rfl (srBL0_under C a b _) ?_
 refine If.mk (fun _ => ?_) (fun h => absurd ((show (now.length : Int) = 0 by omega)) h)
 refine ifY ?_
 refine RoundG.intro (m := false) mixed rfl rfl (show ∀ s ∈ (#[12] : Array Tmp), s < 18 by decide) ?_
 refine ⟨rfl, _, rfl, rfl, ?_⟩
 refine RoundG.introF (m := false) mixed rfl rfl (by decide) ?_
 refine ⟨rfl, _, rfl, rfl, [(4, .ptr 1 0), (5, .ptr 2 0), (8, .ptr 3 0), (9, eInts now)], [(0, vbBox C), (1, .box [eInts a] 30), (2, .box [eInts b] 30), (3, .box [.sl o.length (o.map eInts) (.own 5 o.length 1)] 38), (4, vbBox C), (5, .row o.length), (6, .defd), (7, lpB Tryz.f33 .busy [(4, .ptr 1 0), (5, .ptr 2 0), (8, .ptr 3 0), (26, .fn (.func 140) [] [.ptr 4 0])] 6), (8, .box [.yld 7] 109), (9, .box [n' 3] 3), (10, .box [n' 0] 3), (11, .defd), (12, lpB Tryz.f140 .busy [(1, .ptr 4 0), (2, .ptr 8 0), (5, n' 0), (11, .fn (.func 179) [] [.ptr 10 0, .ptr 9 0])] 11), (13, .box [.yld 12] 109), (14, .box [.fn (.func 180) [] [.ptr 10 0, .ptr 13 0, .ptr 9 0, .ptr 14 0]] 109)], 15, rfl, ⟨⟨_, rfl, Weak.refl _ _⟩, ⟨_, rfl, Weak.refl _ _⟩, ⟨_, rfl, Weak.refl _ _⟩, ⟨_, rfl, Weak.refl _ _⟩, trivial⟩, ⟨bk rfl rfl, bk rfl rfl, bk rfl rfl, bk rfl rfl, bk rfl rfl, bk rfl rfl, bk rfl rfl, bk rfl rfl, bk rfl rfl, bk rfl rfl, bk rfl rfl, bk rfl rfl, bk rfl rfl, bk rfl rfl, bk rfl rfl, trivial⟩, ?_⟩
 refine CallG.pure _ (c_between ha.1 hl.1) ?_
 refine CallG.pure _ (c_between hl.1 hb.1) ?_
 have g1 := ed_le a now
 have g2 := ed_le now b
 have g3 := ed_le a b
 have g4 := ha.1
 have g5 := hb.1
 have g6 := hl.1
 refine CallG.weak _ (.cons (fun H => WeakH.tail _ _ _ H) (.nil)) (c_vsum (l := [((edL a now : Nat) : Int), ((edL now b : Nat) : Int)]) (by simp) (by intro x hx; simp only [List.mem_cons, List.not_mem_nil, or_false] at hx; rcases hx with rfl | rfl <;> omega)) ?_
 refine CallG.pure _ (c_between ha.1 hb.1) ?_
 have es : sumI [((edL a now : Nat) : Int), ((edL now b : Nat) : Int)] = ((edL a now : Nat) : Int) + ((edL now b : Nat) : Int) := by unfold sumI; simp
 refine If.mk (fun h1 => ?_) (fun h1 => ?_)
 ·refine ifY ?_
  have hp : btP a b now = true := decide_eq_true (by rw [es] at h1; omega)
  refine ex_app _ _ (app_line (List.length_map _) (by omega) rfl) ?_
  refine ⟨_, _, rfl, rfl, ?_⟩
  refine ifN ?_
  refine ⟨_, _, rfl, rfl, ?_⟩
  refine ⟨.inl rfl, ?_, FinF.mk _ rfl rfl rfl⟩
  have e : (o ++ [now]).length = o.length + 1 := by simp
  rw [List.filter_cons_of_pos hp, List.filter_nil]
  refine ⟨bk rfl rfl, bk rfl rfl, bk rfl rfl, ⟨?_, ltb rfl⟩, bk rfl rfl, ⟨?_, ltb rfl⟩, bk rfl rfl, bk rfl rfl, bk rfl rfl, bk rfl rfl, bk rfl rfl, bk rfl rfl, bk rfl rfl, bk rfl rfl, bk rfl rfl, trivial⟩
  ·show _ = some (Blk.box [.sl (o ++ [now]).length ((o ++ [now]).map eInts) (.own 5 (o ++ [now]).length 1)] 38)
   rw [List.map_append, e]
   rfl
  ·show _ = some (Blk.row (o ++ [now]).length)
   rw [e]
   rfl
 ·refine ifN ?_
  have hp : ¬ btP a b now = true := fun h => h1 (by have := of_decide_eq_true h; rw [es]; omega)
  refine ⟨_, _, rfl, rfl, ?_⟩
  refine ifN ?_
  refine ⟨_, _, rfl, rfl, ?_⟩
  rw [List.filter_cons_of_neg hp, List.filter_nil, List.append_nil]
  refine ⟨.inl rfl, ⟨bk rfl rfl, bk rfl rfl, bk rfl rfl, bk rfl rfl, bk rfl rfl, bk rfl rfl, bk rfl rfl, bk rfl rfl, bk rfl rfl, bk rfl rfl, bk rfl rfl, bk rfl rfl, bk rfl rfl, bk rfl rfl, bk rfl rfl, trivial⟩, FinF.mk _ rfl rfl rfl⟩
noncomputable def srBL1 (C : List (List Int)) (a b : List Int) (o : List (List Int)) : List (Nat × Blk) :=
 [(0, vbBox C), (1, .box [eInts a] 30), (2, .box [eInts b] 30), (3, .box [.sl o.length (o.map eInts) (.own 5 o.length 1)] 38), (4, vbBox C), (5, .row o.length), (6, .defd), (7, lpB Tryz.f33 .ready [(4, .ptr 1 0), (5, .ptr 2 0), (8, .ptr 3 0), (26, .fn (.func 140) [] [.ptr 4 0])] 6), (8, .box [.yld 7] 109), (9, .box [n' 3] 3), (10, .box [n' 0] 3), (11, .defd), (12, lpB Tryz.f140 .exhausted [(1, .ptr 4 0), (2, .ptr 8 0), (5, n' 0), (11, .fn (.func 179) [] [.ptr 10 0, .ptr 9 0])] 11), (13, .box [.yld 12] 109), (14, .box [.fn (.func 180) [] [.ptr 10 0, .ptr 13 0, .ptr 9 0, .ptr 14 0]] 109), (15, .box [n' 3] 3), (16, .box [n' 1] 3), (17, .defd), (18, lpB Tryz.f140 .ready [(1, .ptr 4 0), (2, .ptr 8 0), (5, n' 1), (11, .fn (.func 179) [] [.ptr 16 0, .ptr 15 0])] 17), (19, .box [.yld 18] 109), (20, .box [.fn (.func 180) [] [.ptr 16 0, .ptr 19 0, .ptr 15 0, .ptr 20 0]] 109)]
theorem srBL1_numd (C : List (List Int)) (a b : List Int) (o : List (List Int)) : Numd 0 (srBL1 C a b o) := ⟨rfl, rfl, rfl, rfl, rfl, rfl, rfl, rfl, rfl, rfl, rfl, rfl, rfl, rfl, rfl, rfl, rfl, rfl, rfl, rfl, rfl, trivial⟩
theorem srBL1_marks (C : List (List Int)) (a b : List Int) (o o' : List (List Int)) : MarksL (srBL1 C a b o) (srBL1 C a b o') :=
 .cons (fun e => e) (.cons (fun e => e) (.cons (fun e => e) (.cons (fun e => by cases e) (.cons (fun e => e) (.cons (fun e => by cases e) (MarksL.same _))))))
theorem srBL1_under (C : List (List Int)) (a b : List Int) (o : List (List Int)) : ∀ q ∈ srBL1 C a b o, q.2.under 21 :=
 UnderL.mem (l := srBL1 C a b o) ⟨vbBox_under _ _, ⟨under_eInts _ _, trivial⟩, ⟨under_eInts _ _, trivial⟩, ⟨⟨unders_map (under_eInts _) _, ltb rfl⟩, trivial⟩, vbBox_under _ _, trivial, trivial, under_lpB ⟨ltb rfl, ltb rfl, ltb rfl, ⟨trivial, ltb rfl, trivial⟩, trivial⟩ (ltb rfl), ⟨ltb rfl, trivial⟩, ⟨trivial, trivial⟩, ⟨trivial, trivial⟩, trivial, under_lpB ⟨ltb rfl, ltb rfl, trivial, ⟨trivial, ltb rfl, ltb rfl, trivial⟩, trivial⟩ (ltb rfl), ⟨ltb rfl, trivial⟩, ⟨⟨trivial, ltb rfl, ltb rfl, ltb rfl, ltb rfl, trivial⟩, trivial⟩, ⟨trivial, trivial⟩, ⟨trivial, trivial⟩, trivial, under_lpB ⟨ltb rfl, ltb rfl, trivial, ⟨trivial, ltb rfl, ltb rfl, trivial⟩, trivial⟩ (ltb rfl), ⟨ltb rfl, trivial⟩, ⟨⟨trivial, ltb rfl, ltb rfl, ltb rfl, ltb rfl, trivial⟩, trivial⟩, trivial⟩
set_option maxHeartbeats 4000000 in
set_option maxRecDepth 100000 in
theorem c_srB01 (C : List (List Int)) (a b : List Int) (ha : LineOk a) (hb : LineOk b) {now : List Int} (hn : now.length = 1) (hl : LineOk now) {o : List (List Int)} (ho : o.length ≤ 1000000) :
  ACall Tryz.prog 180 (eInts now :: [.ptr 16 0, .ptr 19 0, .ptr 15 0, .ptr 20 0]) (hp (srBL1 C a b o)) (.ret (nb true)) (hp (srBL1 C a b (o ++ [now].filter (btP a b)))) := by
 refine fn_keep (m := false) (fn := Tryz.f180) (c := (Tryz.f180.body).getD .skip) (p := 21) mixed (by kernel_rfl) (by kernel_rfl) (of_decide_eq_true (by kernel_rfl)) rfl (srBL1_numd C a b _) (srBL1_numd C a b _) rfl rfl (srBL1_under C a b _) ?_
 refine If.mk (fun _ => ?_) (fun h => absurd ((show (now.length : Int) = 1 by omega)) h)
 refine ifY ?_
 refine RoundG.intro (m := false) mixed rfl rfl (show ∀ s ∈ (#[12] : Array Tmp), s < 18 by decide) ?_
 refine ⟨rfl, _, rfl, rfl, ?_⟩
 refine RoundG.introF (m := false) mixed rfl rfl (by decide) ?_
 refine ⟨rfl, _, rfl, rfl, [(4, .ptr 1 0), (5, .ptr 2 0), (8, .ptr 3 0), (9, eInts now)], [(0, vbBox C), (1, .box [eInts a] 30), (2, .box [eInts b] 30), (3, .box [.sl o.length (o.map eInts) (.own 5 o.length 1)] 38), (4, vbBox C), (5, .row o.length), (6, .defd), (7, lpB Tryz.f33 .busy [(4, .ptr 1 0), (5, .ptr 2 0), (8, .ptr 3 0), (26, .fn (.func 140) [] [.ptr 4 0])] 6), (8, .box [.yld 7] 109), (9, .box [n' 3] 3), (10, .box [n' 0] 3), (11, .defd), (12, lpB Tryz.f140 .exhausted [(1, .ptr 4 0), (2, .ptr 8 0), (5, n' 0), (11, .fn (.func 179) [] [.ptr 10 0, .ptr 9 0])] 11), (13, .box [.yld 12] 109), (14, .box [.fn (.func 180) [] [.ptr 10 0, .ptr 13 0, .ptr 9 0, .ptr 14 0]] 109), (15, .box [n' 3] 3), (16, .box [n' 1] 3), (17, .defd), (18, lpB Tryz.f140 .busy [(1, .ptr 4 0), (2, .ptr 8 0), (5, n' 1), (11, .fn (.func 179) [] [.ptr 16 0, .ptr 15 0])] 17), (19, .box [.yld 18] 109), (20, .box [.fn (.func 180) [] [.ptr 16 0, .ptr 19 0, .ptr 15 0, .ptr 20 0]] 109)], 21, rfl, ⟨⟨_, rfl, Weak.refl _ _⟩, ⟨_, rfl, Weak.refl _ _⟩, ⟨_, rfl, Weak.refl _ _⟩, ⟨_, rfl, Weak.refl _ _⟩, trivial⟩, ⟨bk rfl rfl, bk rfl rfl, bk rfl rfl, bk rfl rfl, bk rfl rfl, bk rfl rfl, bk rfl rfl, bk rfl rfl, bk rfl rfl, bk rfl rfl, bk rfl rfl, bk rfl rfl, bk rfl rfl, bk rfl rfl, bk rfl rfl, bk rfl rfl, bk rfl rfl, bk rfl rfl, bk rfl rfl, bk rfl rfl, bk rfl rfl, trivial⟩, ?_⟩
 refine CallG.pure _ (c_between ha.1 hl.1) ?_
 refine CallG.pure _ (c_between hl.1 hb.1) ?_
 have g1 := ed_le a now
 have g2 := ed_le now b
 have g3 := ed_le a b
 have g4 := ha.1
 have g5 := hb.1
 have g6 := hl.1
 refine CallG.weak _ (.cons (fun H => WeakH.tail _ _ _ H) (.nil)) (c_vsum (l := [((edL a now : Nat) : Int), ((edL now b : Nat) : Int)]) (by simp) (by intro x hx; simp only [List.mem_cons, List.not_mem_nil, or_false] at hx; rcases hx with rfl | rfl <;> omega)) ?_
 refine CallG.pure _ (c_between ha.1 hb.1) ?_
 have es : sumI [((edL a now : Nat) : Int), ((edL now b : Nat) : Int)] = ((edL a now : Nat) : Int) + ((edL now b : Nat) : Int) := by unfold sumI; simp
 refine If.mk (fun h1 => ?_) (fun h1 => ?_)
 ·refine ifY ?_
  have hp : btP a b now = true := decide_eq_true (by rw [es] at h1; omega)
  refine ex_app _ _ (app_line (List.length_map _) (by omega) rfl) ?_
  refine ⟨_, _, rfl, rfl, ?_⟩
  refine ifN ?_
  refine ⟨_, _, rfl, rfl, ?_⟩
  refine ⟨.inl rfl, ?_, FinF.mk _ rfl rfl rfl⟩
  have e : (o ++ [now]).length = o.length + 1 := by simp
  rw [List.filter_cons_of_pos hp, List.filter_nil]
  refine ⟨bk rfl rfl, bk rfl rfl, bk rfl rfl, ⟨?_, ltb rfl⟩, bk rfl rfl, ⟨?_, ltb rfl⟩, bk rfl rfl, bk rfl rfl, bk rfl rfl, bk rfl rfl, bk rfl rfl, bk rfl rfl, bk rfl rfl, bk rfl rfl, bk rfl rfl, bk rfl rfl, bk rfl rfl, bk rfl rfl, bk rfl rfl, bk rfl rfl, bk rfl rfl, trivial⟩
  ·show _ = some (Blk.box [.sl (o ++ [now]).length ((o ++ [now]).map eInts) (.own 5 (o ++ [now]).length 1)] 38)
   rw [List.map_append, e]
   rfl
  ·show _ = some (Blk.row (o ++ [now]).length)
   rw [e]
   rfl
 ·refine ifN ?_
  have hp : ¬ btP a b now = true := fun h => h1 (by have := of_decide_eq_true h; rw [es]; omega)
  refine ⟨_, _, rfl, rfl, ?_⟩
  refine ifN ?_
  refine ⟨_, _, rfl, rfl, ?_⟩
  rw [List.filter_cons_of_neg hp, List.filter_nil, List.append_nil]
  refine ⟨.inl rfl, ⟨bk rfl rfl, bk rfl rfl, bk rfl rfl, bk rfl rfl, bk rfl rfl, bk rfl rfl, bk rfl rfl, bk rfl rfl, bk rfl rfl, bk rfl rfl, bk rfl rfl, bk rfl rfl, bk rfl rfl, bk rfl rfl, bk rfl rfl, bk rfl rfl, bk rfl rfl, bk rfl rfl, bk rfl rfl, bk rfl rfl, bk rfl rfl, trivial⟩, FinF.mk _ rfl rfl rfl⟩
set_option maxHeartbeats 4000000 in
set_option maxRecDepth 100000 in
theorem c_srB1 (C : List (List Int)) (a b : List Int) (ha : LineOk a) (hb : LineOk b) : ∀ (d : Nat) {now : List Int} {o : List (List Int)} (_ : now.length + d = 1) (_ : ∀ x ∈ now, 0 ≤ x ∧ x < 3) (_ : o.length + (srchW 3 d now).length ≤ 1000000),
  ACall Tryz.prog 180 (eInts now :: [.ptr 16 0, .ptr 19 0, .ptr 15 0, .ptr 20 0]) (hp (srBL1 C a b o)) (.ret (nb true)) (hp (srBL1 C a b (o ++ (srchW 3 d now).filter (btP a b))))
 | 0, now, o, hn, hx, hh => c_srB01 C a b ha hb hn ⟨by omega, hx⟩ (by omega)
 | d + 1, now, o, hn, hx, hh => by
  rw [← srcU_full] at hh ⊢
  refine fn_keep (m := false) (fn := Tryz.f180) (c := (Tryz.f180.body).getD .skip) (p := 21) mixed (by kernel_rfl) (by kernel_rfl) (of_decide_eq_true (by kernel_rfl)) rfl (srBL1_numd C a b _) (srBL1_numd C a b _) rfl rfl (srBL1_under C a b _) ?_
  refine If.mk (fun h => absurd h ((show ¬ ((now.length : Int) = 1) by omega))) (fun _ => ?_)
  refine ifN ?_
  refine LoopG.at (n0 := 21) rfl (loop_up mixed (m := false) (fun r => [(0, eInts now), (1, .ptr 16 0), (2, .ptr 19 0), (3, .ptr 15 0), (4, .ptr 20 0), (15, n' 3), (16, n' r)]) (fun r => srBL1 C a b (o ++ (srcU d now r).filter (btP a b))) (fun _ => True) 3 1 (leb rfl) trivial ?_ ?_ ?_)
  ·exact ⟨⟨_, rfl, Weak.refl _ _, under_eInts _ _⟩, wp rfl (ltb rfl), wp rfl (ltb rfl), wp rfl (ltb rfl), wp rfl (ltb rfl), wp rfl trivial, wp rfl trivial, trivial⟩
  ·show Blks _ _ (srBL1 C a b (o ++ (srcU d now 0).filter (btP a b)))
   rw [srcU_zero, List.filter_nil, List.append_nil]
   exact ⟨bk rfl rfl, bk rfl rfl, bk rfl rfl, bk rfl rfl, bk rfl rfl, bk rfl rfl, bk rfl rfl, bk rfl rfl, bk rfl rfl, bk rfl rfl, bk rfl rfl, bk rfl rfl, bk rfl rfl, bk rfl rfl, bk rfl rfl, bk rfl rfl, bk rfl rfl, bk rfl rfl, bk rfl rfl, bk rfl rfl, bk rfl rfl, trivial⟩
  ·intro r hr _
   refine If.mk (fun h1 => ?_) (fun h1 => ?_)
   ·refine ifY ?_
    refine CallG.cloneI (by omega) (leb rfl) ?_
    refine ex_app _ _ (app_int (List.length_map _) (by omega) rfl) ?_
    have hs := srcU_succ d now r
    have hsl := congrArg List.length hs
    rw [List.length_append] at hsl
    have hle := srcU_le (d := d) (now := now) (show r + 1 ≤ 3 by omega)
    have hfl := List.length_filter_le (btP a b) (srcU d now r)
    refine CallG.pre (eInts (now ++ [(r : Int)]) :: [.ptr 16 0, .ptr 19 0, .ptr 15 0, .ptr 20 0]) (srBL1 C a b (o ++ (srcU d now r).filter (btP a b))) (srBL1 C a b (o ++ (srcU d now (r + 1)).filter (btP a b))) (nb true) 1 (.cons (fun H => wk_snoc H) (.cons (fun H => WeakH.refl _ H) (.cons (fun H => WeakH.refl _ H) (.cons (fun H => WeakH.refl _ H) (.cons (fun H => WeakH.refl _ H) .nil)))))
     (srBL1_numd C a b _) (srBL1_numd C a b _) rfl (srBL1_marks C a b _ _) ⟨bk rfl rfl, bk rfl rfl, bk rfl rfl, bk rfl rfl, bk rfl rfl, bk rfl rfl, bk rfl rfl, bk rfl rfl, bk rfl rfl, bk rfl rfl, bk rfl rfl, bk rfl rfl, bk rfl rfl, bk rfl rfl, bk rfl rfl, bk rfl rfl, bk rfl rfl, bk rfl rfl, bk rfl rfl, bk rfl rfl, bk rfl rfl, trivial⟩ rfl ⟨under_eInts _ _, ltb rfl, ltb rfl, ltb rfl, ltb rfl, trivial⟩ rfl (srBL1_under C a b _) (srBL1_under C a b _) ?_ ?_
    ·rw [hs, List.filter_append, ← List.append_assoc]
     refine c_srB1 C a b ha hb d (by rw [List.length_append, List.length_singleton]; omega) (fun x hx' => ?_) (by rw [List.length_append]; omega)
     rcases List.mem_append.1 hx' with h | h
     ·exact hx x h
     ·rw [List.mem_singleton] at h; omega
    ·refine ifN ?_
     refine Side.mk (fits64 (by omega)) ?_
     exact ⟨leb rfl, rfl, by omega, trivial, ⟨⟨_, rfl, Weak.refl _ _, under_eInts _ _⟩, wp rfl (ltb rfl), wp rfl (ltb rfl), wp rfl (ltb rfl), wp rfl (ltb rfl), wp rfl trivial, wp rfl trivial, trivial⟩, ⟨bk rfl rfl, bk rfl rfl, bk rfl rfl, bk rfl rfl, bk rfl rfl, bk rfl rfl, bk rfl rfl, bk rfl rfl, bk rfl rfl, bk rfl rfl, bk rfl rfl, bk rfl rfl, bk rfl rfl, bk rfl rfl, bk rfl rfl, bk rfl rfl, bk rfl rfl, bk rfl rfl, bk rfl rfl, bk rfl rfl, bk rfl rfl, trivial⟩, ⟨_, rfl, under_eInts _ _, trivial⟩, ⟨_, rfl, under_eInts _ _, trivial⟩, ⟨_, rfl, ⟨unders_map (under_eInts _) _, ltb rfl⟩, trivial⟩, ⟨_, rfl, vbBox_under _ _⟩, ⟨_, rfl, trivial⟩, ⟨_, rfl, trivial⟩, ⟨_, rfl, under_lpB ⟨ltb rfl, ltb rfl, ltb rfl, ⟨trivial, ltb rfl, trivial⟩, trivial⟩ (ltb rfl)⟩, ⟨_, rfl, ltb rfl, trivial⟩, ⟨_, rfl, trivial, trivial⟩, ⟨_, rfl, trivial, trivial⟩, ⟨_, rfl, trivial⟩, ⟨_, rfl, under_lpB ⟨ltb rfl, ltb rfl, trivial, ⟨trivial, ltb rfl, ltb rfl, trivial⟩, trivial⟩ (ltb rfl)⟩, ⟨_, rfl, ltb rfl, trivial⟩, ⟨_, rfl, ⟨trivial, ltb rfl, ltb rfl, ltb rfl, ltb rfl, trivial⟩, trivial⟩, ⟨_, rfl, trivial, trivial⟩, ⟨_, rfl, trivial, trivial⟩, ⟨_, rfl, trivial⟩, ⟨_, rfl, under_lpB ⟨ltb rfl, ltb rfl, trivial, ⟨trivial, ltb rfl, ltb rfl, trivial⟩, trivial⟩ (ltb rfl)⟩, ⟨_, rfl, ltb rfl, trivial⟩, ⟨_, rfl, ⟨trivial, ltb rfl, ltb rfl, ltb rfl, ltb rfl, trivial⟩, trivial⟩, trivial⟩
   ·refine ifN ?_
    obtain rfl : r = 3 := by omega
    refine ⟨leb rfl, ?_⟩
    exact ⟨.inl rfl, ⟨bk rfl rfl, bk rfl rfl, bk rfl rfl, bk rfl rfl, bk rfl rfl, bk rfl rfl, bk rfl rfl, bk rfl rfl, bk rfl rfl, bk rfl rfl, bk rfl rfl, bk rfl rfl, bk rfl rfl, bk rfl rfl, bk rfl rfl, bk rfl rfl, bk rfl rfl, bk rfl rfl, bk rfl rfl, bk rfl rfl, bk rfl rfl, trivial⟩, FinF.mk _ rfl rfl rfl⟩
noncomputable def srBL2 (C : List (List Int)) (a b : List Int) (o : List (List Int)) : List (Nat × Blk) :=
 [(0, vbBox C), (1, .box [eInts a] 30), (2, .box [eInts b] 30), (3, .box [.sl o.length (o.map eInts) (.own 5 o.length 1)] 38), (4, vbBox C), (5, .row o.length), (6, .defd), (7, lpB Tryz.f33 .ready [(4, .ptr 1 0), (5, .ptr 2 0), (8, .ptr 3 0), (26, .fn (.func 140) [] [.ptr 4 0])] 6), (8, .box [.yld 7] 109), (9, .box [n' 3] 3), (10, .box [n' 0] 3), (11, .defd), (12, lpB Tryz.f140 .exhausted [(1, .ptr 4 0), (2, .ptr 8 0), (5, n' 0), (11, .fn (.func 179) [] [.ptr 10 0, .ptr 9 0])] 11), (13, .box [.yld 12] 109), (14, .box [.fn (.func 180) [] [.ptr 10 0, .ptr 13 0, .ptr 9 0, .ptr 14 0]] 109), (15, .box [n' 3] 3), (16, .box [n' 1] 3), (17, .defd), (18, lpB Tryz.f140 .exhausted [(1, .ptr 4 0), (2, .ptr 8 0), (5, n' 1), (11, .fn (.func 179) [] [.ptr 16 0, .ptr 15 0])] 17), (19, .box [.yld 18] 109), (20, .box [.fn (.func 180) [] [.ptr 16 0, .ptr 19 0, .ptr 15 0, .ptr 20 0]] 109), (21, .box [n' 3] 3), (22, .box [n' 2] 3), (23, .defd), (24, lpB Tryz.f140 .ready [(1, .ptr 4 0), (2, .ptr 8 0), (5, n' 2), (11, .fn (.func 179) [] [.ptr 22 0, .ptr 21 0])] 23), (25, .box [.yld 24] 109), (26, .box [.fn (.func 180) [] [.ptr 22 0, .ptr 25 0, .ptr 21 0, .ptr 26 0]] 109)]
theorem srBL2_numd (C : List (List Int)) (a b : List Int) (o : List (List Int)) : Numd 0 (srBL2 C a b o) := ⟨rfl, rfl, rfl, rfl, rfl, rfl, rfl, rfl, rfl, rfl, rfl, rfl, rfl, rfl, rfl, rfl, rfl, rfl, rfl, rfl, rfl, rfl, rfl, rfl, rfl, rfl, rfl, trivial⟩
theorem srBL2_marks (C : List (List Int)) (a b : List Int) (o o' : List (List Int)) : MarksL (srBL2 C a b o) (srBL2 C a b o') :=
 .cons (fun e => e) (.cons (fun e => e) (.cons (fun e => e) (.cons (fun e => by cases e) (.cons (fun e => e) (.cons (fun e => by cases e) (MarksL.same _))))))
theorem srBL2_under (C : List (List Int)) (a b : List Int) (o : List (List Int)) : ∀ q ∈ srBL2 C a b o, q.2.under 27 :=
 UnderL.mem (l := srBL2 C a b o) ⟨vbBox_under _ _, ⟨under_eInts _ _, trivial⟩, ⟨under_eInts _ _, trivial⟩, ⟨⟨unders_map (under_eInts _) _, ltb rfl⟩, trivial⟩, vbBox_under _ _, trivial, trivial, under_lpB ⟨ltb rfl, ltb rfl, ltb rfl, ⟨trivial, ltb rfl, trivial⟩, trivial⟩ (ltb rfl), ⟨ltb rfl, trivial⟩, ⟨trivial, trivial⟩, ⟨trivial, trivial⟩, trivial, under_lpB ⟨ltb rfl, ltb rfl, trivial, ⟨trivial, ltb rfl, ltb rfl, trivial⟩, trivial⟩ (ltb rfl), ⟨ltb rfl, trivial⟩, ⟨⟨trivial, ltb rfl, ltb rfl, ltb rfl, ltb rfl, trivial⟩, trivial⟩, ⟨trivial, trivial⟩, ⟨trivial, trivial⟩, trivial, under_lpB ⟨ltb rfl, ltb rfl, trivial, ⟨trivial, ltb rfl, ltb rfl, trivial⟩, trivial⟩ (ltb rfl), ⟨ltb rfl, trivial⟩, ⟨⟨trivial, ltb rfl, ltb rfl, ltb rfl, ltb rfl, trivial⟩, trivial⟩, ⟨trivial, trivial⟩, ⟨trivial, trivial⟩, trivial, under_lpB ⟨ltb rfl, ltb rfl, trivial, ⟨trivial, ltb rfl, ltb rfl, trivial⟩, trivial⟩ (ltb rfl), ⟨ltb rfl, trivial⟩, ⟨⟨trivial, ltb rfl, ltb rfl, ltb rfl, ltb rfl, trivial⟩, trivial⟩, trivial⟩
set_option maxHeartbeats 4000000 in
set_option maxRecDepth 100000 in
theorem c_srB02 (C : List (List Int)) (a b : List Int) (ha : LineOk a) (hb : LineOk b) {now : List Int} (hn : now.length = 2) (hl : LineOk now) {o : List (List Int)} (ho : o.length ≤ 1000000) :
  ACall Tryz.prog 180 (eInts now :: [.ptr 22 0, .ptr 25 0, .ptr 21 0, .ptr 26 0]) (hp (srBL2 C a b o)) (.ret (nb true)) (hp (srBL2 C a b (o ++ [now].filter (btP a b)))) := by
 refine fn_keep (m := false) (fn := Tryz.f180) (c := (Tryz.f180.body).getD .skip) (p := 27) mixed (by kernel_rfl) (by kernel_rfl) (of_decide_eq_true (by kernel_rfl)) rfl (srBL2_numd C a b _) (srBL2_numd C a b _) rfl rfl (srBL2_under C a b _) ?_
 refine If.mk (fun _ => ?_) (fun h => absurd ((show (now.length : Int) = 2 by omega)) h)
 refine ifY ?_
 refine RoundG.intro (m := false) mixed rfl rfl (show ∀ s ∈ (#[12] : Array Tmp), s < 18 by decide) ?_
 refine ⟨rfl, _, rfl, rfl, ?_⟩
 refine RoundG.introF (m := false) mixed rfl rfl (by decide) ?_
 refine ⟨rfl, _, rfl, rfl, [(4, .ptr 1 0), (5, .ptr 2 0), (8, .ptr 3 0), (9, eInts now)], [(0, vbBox C), (1, .box [eInts a] 30), (2, .box [eInts b] 30), (3, .box [.sl o.length (o.map eInts) (.own 5 o.length 1)] 38), (4, vbBox C), (5, .row o.length), (6, .defd), (7, lpB Tryz.f33 .busy [(4, .ptr 1 0), (5, .ptr 2 0), (8, .ptr 3 0), (26, .fn (.func 140) [] [.ptr 4 0])] 6), (8, .box [.yld 7] 109), (9, .box [n' 3] 3), (10, .box [n' 0] 3), (11, .defd), (12, lpB Tryz.f140 .exhausted [(1, .ptr 4 0), (2, .ptr 8 0), (5, n' 0), (11, .fn (.func 179) [] [.ptr 10 0, .ptr 9 0])] 11), (13, .box [.yld 12] 109), (14, .box [.fn (.func 180) [] [.ptr 10 0, .ptr 13 0, .ptr 9 0, .ptr 14 0]] 109), (15, .box [n' 3] 3), (16, .box [n' 1] 3), (17, .defd), (18, lpB Tryz.f140 .exhausted [(1, .ptr 4 0), (2, .ptr 8 0), (5, n' 1), (11, .fn (.func 179) [] [.ptr 16 0, .ptr 15 0])] 17), (19, .box [.yld 18] 109), (20, .box [.fn (.func 180) [] [.ptr 16 0, .ptr 19 0, .ptr 15 0, .ptr 20 0]] 109), (21, .box [n' 3] 3), (22, .box [n' 2] 3), (23, .defd), (24, lpB Tryz.f140 .busy [(1, .ptr 4 0), (2, .ptr 8 0), (5, n' 2), (11, .fn (.func 179) [] [.ptr 22 0, .ptr 21 0])] 23), (25, .box [.yld 24] 109), (26, .box [.fn (.func 180) [] [.ptr 22 0, .ptr 25 0, .ptr 21 0, .ptr 26 0]] 109)], 27, rfl, ⟨⟨_, rfl, Weak.refl _ _⟩, ⟨_, rfl, Weak.refl _ _⟩, ⟨_, rfl, Weak.refl _ _⟩, ⟨_, rfl, Weak.refl _ _⟩, trivial⟩, ⟨bk rfl rfl, bk rfl rfl, bk rfl rfl, bk rfl rfl, bk rfl rfl, bk rfl rfl, bk rfl rfl, bk rfl rfl, bk rfl rfl, bk rfl rfl, bk rfl rfl, bk rfl rfl, bk rfl rfl, bk rfl rfl, bk rfl rfl, bk rfl rfl, bk rfl rfl, bk rfl rfl, bk rfl rfl, bk rfl rfl, bk rfl rfl, bk rfl rfl, bk rfl rfl, bk rfl rfl, bk rfl rfl, bk rfl rfl, bk rfl rfl, trivial⟩, ?_⟩
 refine CallG.pure _ (c_between ha.1 hl.1) ?_
 refine CallG.pure _ (c_between hl.1 hb.1) ?_
 have g1 := ed_le a now
 have g2 := ed_le now b
 have g3 := ed_le a b
 have g4 := ha.1
 have g5 := hb.1
 have g6 := hl.1
 refine CallG.weak _ (.cons (fun H => WeakH.tail _ _ _ H) (.nil)) (c_vsum (l := [((edL a now : Nat) : Int), ((edL now b : Nat) : Int)]) (by simp) (by intro x hx; simp only [List.mem_cons, List.not_mem_nil, or_false] at hx; rcases hx with rfl | rfl <;> omega)) ?_
 refine CallG.pure _ (c_between ha.1 hb.1) ?_
 have es : sumI [((edL a now : Nat) : Int), ((edL now b : Nat) : Int)] = ((edL a now : Nat) : Int) + ((edL now b : Nat) : Int) := by unfold sumI; simp
 refine If.mk (fun h1 => ?_) (fun h1 => ?_)
 ·refine ifY ?_
  have hp : btP a b now = true := decide_eq_true (by rw [es] at h1; omega)
  refine ex_app _ _ (app_line (List.length_map _) (by omega) rfl) ?_
  refine ⟨_, _, rfl, rfl, ?_⟩
  refine ifN ?_
  refine ⟨_, _, rfl, rfl, ?_⟩
  refine ⟨.inl rfl, ?_, FinF.mk _ rfl rfl rfl⟩
  have e : (o ++ [now]).length = o.length + 1 := by simp
  rw [List.filter_cons_of_pos hp, List.filter_nil]
  refine ⟨bk rfl rfl, bk rfl rfl, bk rfl rfl, ⟨?_, ltb rfl⟩, bk rfl rfl, ⟨?_, ltb rfl⟩, bk rfl rfl, bk rfl rfl, bk rfl rfl, bk rfl rfl, bk rfl rfl, bk rfl rfl, bk rfl rfl, bk rfl rfl, bk rfl rfl, bk rfl rfl, bk rfl rfl, bk rfl rfl, bk rfl rfl, bk rfl rfl, bk rfl rfl, bk rfl rfl, bk rfl rfl, bk rfl rfl, bk rfl rfl, bk rfl rfl, bk rfl rfl, trivial⟩
  ·show _ = some (Blk.box [.sl (o ++ [now]).length ((o ++ [now]).map eInts) (.own 5 (o ++ [now]).length 1)] 38)
   rw [List.map_append, e]
   rfl
  ·show _ = some (Blk.row (o ++ [now]).length)
   rw [e]
   rfl
 ·refine ifN ?_
  have hp : ¬ btP a b now = true := fun h => h1 (by have := of_decide_eq_true h; rw [es]; omega)
  refine ⟨_, _, rfl, rfl, ?_⟩
  refine ifN ?_
  refine ⟨_, _, rfl, rfl, ?_⟩
  rw [List.filter_cons_of_neg hp, List.filter_nil, List.append_nil]
  refine ⟨.inl rfl, ⟨bk rfl rfl, bk rfl rfl, bk rfl rfl, bk rfl rfl, bk rfl rfl, bk rfl rfl, bk rfl rfl, bk rfl rfl, bk rfl rfl, bk rfl rfl, bk rfl rfl, bk rfl rfl, bk rfl rfl, bk rfl rfl, bk rfl rfl, bk rfl rfl, bk rfl rfl, bk rfl rfl, bk rfl rfl, bk rfl rfl, bk rfl rfl, bk rfl rfl, bk rfl rfl, bk rfl rfl, bk rfl rfl, bk rfl rfl, bk rfl rfl, trivial⟩, FinF.mk _ rfl rfl rfl⟩
set_option maxHeartbeats 4000000 in
set_option maxRecDepth 100000 in
theorem c_srB2 (C : List (List Int)) (a b : List Int) (ha : LineOk a) (hb : LineOk b) : ∀ (d : Nat) {now : List Int} {o : List (List Int)} (_ : now.length + d = 2) (_ : ∀ x ∈ now, 0 ≤ x ∧ x < 3) (_ : o.length + (srchW 3 d now).length ≤ 1000000),
  ACall Tryz.prog 180 (eInts now :: [.ptr 22 0, .ptr 25 0, .ptr 21 0, .ptr 26 0]) (hp (srBL2 C a b o)) (.ret (nb true)) (hp (srBL2 C a b (o ++ (srchW 3 d now).filter (btP a b))))
 | 0, now, o, hn, hx, hh => c_srB02 C a b ha hb hn ⟨by omega, hx⟩ (by omega)
 | d + 1, now, o, hn, hx, hh => by
  rw [← srcU_full] at hh ⊢
  refine fn_keep (m := false) (fn := Tryz.f180) (c := (Tryz.f180.body).getD .skip) (p := 27) mixed (by kernel_rfl) (by kernel_rfl) (of_decide_eq_true (by kernel_rfl)) rfl (srBL2_numd C a b _) (srBL2_numd C a b _) rfl rfl (srBL2_under C a b _) ?_
  refine If.mk (fun h => absurd h ((show ¬ ((now.length : Int) = 2) by omega))) (fun _ => ?_)
  refine ifN ?_
  refine LoopG.at (n0 := 27) rfl (loop_up mixed (m := false) (fun r => [(0, eInts now), (1, .ptr 22 0), (2, .ptr 25 0), (3, .ptr 21 0), (4, .ptr 26 0), (15, n' 3), (16, n' r)]) (fun r => srBL2 C a b (o ++ (srcU d now r).filter (btP a b))) (fun _ => True) 3 1 (leb rfl) trivial ?_ ?_ ?_)
  ·exact ⟨⟨_, rfl, Weak.refl _ _, under_eInts _ _⟩, wp rfl (ltb rfl), wp rfl (ltb rfl), wp rfl (ltb rfl), wp rfl (ltb rfl), wp rfl trivial, wp rfl trivial, trivial⟩
  ·show Blks _ _ (srBL2 C a b (o ++ (srcU d now 0).filter (btP a b)))
   rw [srcU_zero, List.filter_nil, List.append_nil]
   exact ⟨bk rfl rfl, bk rfl rfl, bk rfl rfl, bk rfl rfl, bk rfl rfl, bk rfl rfl, bk rfl rfl, bk rfl rfl, bk rfl rfl, bk rfl rfl, bk rfl rfl, bk rfl rfl, bk rfl rfl, bk rfl rfl, bk rfl rfl, bk rfl rfl, bk rfl rfl, bk rfl rfl, bk rfl rfl, bk rfl rfl, bk rfl rfl, bk rfl rfl, bk rfl rfl, bk rfl rfl, bk rfl rfl, bk rfl rfl, bk rfl rfl, trivial⟩
  ·intro r hr _
   refine If.mk (fun h1 => ?_) (fun h1 => ?_)
   ·refine ifY ?_
    refine CallG.cloneI (by omega) (leb rfl) ?_
    refine ex_app _ _ (app_int (List.length_map _) (by omega) rfl) ?_
    have hs := srcU_succ d now r
    have hsl := congrArg List.length hs
    rw [List.length_append] at hsl
    have hle := srcU_le (d := d) (now := now) (show r + 1 ≤ 3 by omega)
    have hfl := List.length_filter_le (btP a b) (srcU d now r)
    refine CallG.pre (eInts (now ++ [(r : Int)]) :: [.ptr 22 0, .ptr 25 0, .ptr 21 0, .ptr 26 0]) (srBL2 C a b (o ++ (srcU d now r).filter (btP a b))) (srBL2 C a b (o ++ (srcU d now (r + 1)).filter (btP a b))) (nb true) 1 (.cons (fun H => wk_snoc H) (.cons (fun H => WeakH.refl _ H) (.cons (fun H => WeakH.refl _ H) (.cons (fun H => WeakH.refl _ H) (.cons (fun H => WeakH.refl _ H) .nil)))))
     (srBL2_numd C a b _) (srBL2_numd C a b _) rfl (srBL2_marks C a b _ _) ⟨bk rfl rfl, bk rfl rfl, bk rfl rfl, bk rfl rfl, bk rfl rfl, bk rfl rfl, bk rfl rfl, bk rfl rfl, bk rfl rfl, bk rfl rfl, bk rfl rfl, bk rfl rfl, bk rfl rfl, bk rfl rfl, bk rfl rfl, bk rfl rfl, bk rfl rfl, bk rfl rfl, bk rfl rfl, bk rfl rfl, bk rfl rfl, bk rfl rfl, bk rfl rfl, bk rfl rfl, bk rfl rfl, bk rfl rfl, bk rfl rfl, trivial⟩ rfl ⟨under_eInts _ _, ltb rfl, ltb rfl, ltb rfl, ltb rfl, trivial⟩ rfl (srBL2_under C a b _) (srBL2_under C a b _) ?_ ?_
    ·rw [hs, List.filter_append, ← List.append_assoc]
     refine c_srB2 C a b ha hb d (by rw [List.length_append, List.length_singleton]; omega) (fun x hx' => ?_) (by rw [List.length_append]; omega)
     rcases List.mem_append.1 hx' with h | h
     ·exact hx x h
     ·rw [List.mem_singleton] at h; omega
    ·refine ifN ?_
     refine Side.mk (fits64 (by omega)) ?_
     exact ⟨leb rfl, rfl, by omega, trivial, ⟨⟨_, rfl, Weak.refl _ _, under_eInts _ _⟩, wp rfl (ltb rfl), wp rfl (ltb rfl), wp rfl (ltb rfl), wp rfl (ltb rfl), wp rfl trivial, wp rfl trivial, trivial⟩, ⟨bk rfl rfl, bk rfl rfl, bk rfl rfl, bk rfl rfl, bk rfl rfl, bk rfl rfl, bk rfl rfl, bk rfl rfl, bk rfl rfl, bk rfl rfl, bk rfl rfl, bk rfl rfl, bk rfl rfl, bk rfl rfl, bk rfl rfl, bk rfl rfl, bk rfl rfl, bk rfl rfl, bk rfl rfl, bk rfl rfl, bk rfl rfl, bk rfl rfl, bk rfl rfl, bk rfl rfl, bk rfl rfl, bk rfl rfl, bk rfl rfl, trivial⟩, ⟨_, rfl, under_eInts _ _, trivial⟩, ⟨_, rfl, under_eInts _ _, trivial⟩, ⟨_, rfl, ⟨unders_map (under_eInts _) _, ltb rfl⟩, trivial⟩, ⟨_, rfl, vbBox_under _ _⟩, ⟨_, rfl, trivial⟩, ⟨_, rfl, trivial⟩, ⟨_, rfl, under_lpB ⟨ltb rfl, ltb rfl, ltb rfl, ⟨trivial, ltb rfl, trivial⟩, trivial⟩ (ltb rfl)⟩, ⟨_, rfl, ltb rfl, trivial⟩, ⟨_, rfl, trivial, trivial⟩, ⟨_, rfl, trivial, trivial⟩, ⟨_, rfl, trivial⟩, ⟨_, rfl, under_lpB ⟨ltb rfl, ltb rfl, trivial, ⟨trivial, ltb rfl, ltb rfl, trivial⟩, trivial⟩ (ltb rfl)⟩, ⟨_, rfl, ltb rfl, trivial⟩, ⟨_, rfl, ⟨trivial, ltb rfl, ltb rfl, ltb rfl, ltb rfl, trivial⟩, trivial⟩, ⟨_, rfl, trivial, trivial⟩, ⟨_, rfl, trivial, trivial⟩, ⟨_, rfl, trivial⟩, ⟨_, rfl, under_lpB ⟨ltb rfl, ltb rfl, trivial, ⟨trivial, ltb rfl, ltb rfl, trivial⟩, trivial⟩ (ltb rfl)⟩, ⟨_, rfl, ltb rfl, trivial⟩, ⟨_, rfl, ⟨trivial, ltb rfl, ltb rfl, ltb rfl, ltb rfl, trivial⟩, trivial⟩, ⟨_, rfl, trivial, trivial⟩, ⟨_, rfl, trivial, trivial⟩, ⟨_, rfl, trivial⟩, ⟨_, rfl, under_lpB ⟨ltb rfl, ltb rfl, trivial, ⟨trivial, ltb rfl, ltb rfl, trivial⟩, trivial⟩ (ltb rfl)⟩, ⟨_, rfl, ltb rfl, trivial⟩, ⟨_, rfl, ⟨trivial, ltb rfl, ltb rfl, ltb rfl, ltb rfl, trivial⟩, trivial⟩, trivial⟩
   ·refine ifN ?_
    obtain rfl : r = 3 := by omega
    refine ⟨leb rfl, ?_⟩
    exact ⟨.inl rfl, ⟨bk rfl rfl, bk rfl rfl, bk rfl rfl, bk rfl rfl, bk rfl rfl, bk rfl rfl, bk rfl rfl, bk rfl rfl, bk rfl rfl, bk rfl rfl, bk rfl rfl, bk rfl rfl, bk rfl rfl, bk rfl rfl, bk rfl rfl, bk rfl rfl, bk rfl rfl, bk rfl rfl, bk rfl rfl, bk rfl rfl, bk rfl rfl, bk rfl rfl, bk rfl rfl, bk rfl rfl, bk rfl rfl, bk rfl rfl, bk rfl rfl, trivial⟩, FinF.mk _ rfl rfl rfl⟩
noncomputable def srBL3 (C : List (List Int)) (a b : List Int) (o : List (List Int)) : List (Nat × Blk) :=
 [(0, vbBox C), (1, .box [eInts a] 30), (2, .box [eInts b] 30), (3, .box [.sl o.length (o.map eInts) (.own 5 o.length 1)] 38), (4, vbBox C), (5, .row o.length), (6, .defd), (7, lpB Tryz.f33 .ready [(4, .ptr 1 0), (5, .ptr 2 0), (8, .ptr 3 0), (26, .fn (.func 140) [] [.ptr 4 0])] 6), (8, .box [.yld 7] 109), (9, .box [n' 3] 3), (10, .box [n' 0] 3), (11, .defd), (12, lpB Tryz.f140 .exhausted [(1, .ptr 4 0), (2, .ptr 8 0), (5, n' 0), (11, .fn (.func 179) [] [.ptr 10 0, .ptr 9 0])] 11), (13, .box [.yld 12] 109), (14, .box [.fn (.func 180) [] [.ptr 10 0, .ptr 13 0, .ptr 9 0, .ptr 14 0]] 109), (15, .box [n' 3] 3), (16, .box [n' 1] 3), (17, .defd), (18, lpB Tryz.f140 .exhausted [(1, .ptr 4 0), (2, .ptr 8 0), (5, n' 1), (11, .fn (.func 179) [] [.ptr 16 0, .ptr 15 0])] 17), (19, .box [.yld 18] 109), (20, .box [.fn (.func 180) [] [.ptr 16 0, .ptr 19 0, .ptr 15 0, .ptr 20 0]] 109), (21, .box [n' 3] 3), (22, .box [n' 2] 3), (23, .defd), (24, lpB Tryz.f140 .exhausted [(1, .ptr 4 0), (2, .ptr 8 0), (5, n' 2), (11, .fn (.func 179) [] [.ptr 22 0, .ptr 21 0])] 23), (25, .box [.yld 24] 109), (26, .box [.fn (.func 180) [] [.ptr 22 0, .ptr 25 0, .ptr 21 0, .ptr 26 0]] 109), (27, .box [n' 3] 3), (28, .box [n' 3] 3), (29, .defd), (30, lpB Tryz.f140 .ready [(1, .ptr 4 0), (2, .ptr 8 0), (5, n' 3), (11, .fn (.func 179) [] [.ptr 28 0, .ptr 27 0])] 29), (31, .box [.yld 30] 109), (32, .box [.fn (.func 180) [] [.ptr 28 0, .ptr 31 0, .ptr 27 0, .ptr 32 0]] 109)]
theorem srBL3_numd (C : List (List Int)) (a b : List Int) (o : List (List Int)) : Numd 0 (srBL3 C a b o) := ⟨rfl, rfl, rfl, rfl, rfl, rfl, rfl, rfl, rfl, rfl, rfl, rfl, rfl, rfl, rfl, rfl, rfl, rfl, rfl, rfl, rfl, rfl, rfl, rfl, rfl, rfl, rfl, rfl, rfl, rfl, rfl, rfl, rfl, trivial⟩
theorem srBL3_marks (C : List (List Int)) (a b : List Int) (o o' : List (List Int)) : MarksL (srBL3 C a b o) (srBL3 C a b o') :=
 .cons (fun e => e) (.cons (fun e => e) (.cons (fun e => e) (.cons (fun e => by cases e) (.cons (fun e => e) (.cons (fun e => by cases e) (MarksL.same _))))))
theorem srBL3_under (C : List (List Int)) (a b : List Int) (o : List (List Int)) : ∀ q ∈ srBL3 C a b o, q.2.under 33 :=
 UnderL.mem (l := srBL3 C a b o) ⟨vbBox_under _ _, ⟨under_eInts _ _, trivial⟩, ⟨under_eInts _ _, trivial⟩, ⟨⟨unders_map (under_eInts _) _, ltb rfl⟩, trivial⟩, vbBox_under _ _, trivial, trivial, under_lpB ⟨ltb rfl, ltb rfl, ltb rfl, ⟨trivial, ltb rfl, trivial⟩, trivial⟩ (ltb rfl), ⟨ltb rfl, trivial⟩, ⟨trivial, trivial⟩, ⟨trivial, trivial⟩, trivial, under_lpB ⟨ltb rfl, ltb rfl, trivial, ⟨trivial, ltb rfl, ltb rfl, trivial⟩, trivial⟩ (ltb rfl), ⟨ltb rfl, trivial⟩, ⟨⟨trivial, ltb rfl, ltb rfl, ltb rfl, ltb rfl, trivial⟩, trivial⟩, ⟨trivial, trivial⟩, ⟨trivial, trivial⟩, trivial, under_lpB ⟨ltb rfl, ltb rfl, trivial, ⟨trivial, ltb rfl, ltb rfl, trivial⟩, trivial⟩ (ltb rfl), ⟨ltb rfl, trivial⟩, ⟨⟨trivial, ltb rfl, ltb rfl, ltb rfl, ltb rfl, trivial⟩, trivial⟩, ⟨trivial, trivial⟩, ⟨trivial, trivial⟩, trivial, under_lpB ⟨ltb rfl, ltb rfl, trivial, ⟨trivial, ltb rfl, ltb rfl, trivial⟩, trivial⟩ (ltb rfl), ⟨ltb rfl, trivial⟩, ⟨⟨trivial, ltb rfl, ltb rfl, ltb rfl, ltb rfl, trivial⟩, trivial⟩, ⟨trivial, trivial⟩, ⟨trivial, trivial⟩, trivial, under_lpB ⟨ltb rfl, ltb rfl, trivial, ⟨trivial, ltb rfl, ltb rfl, trivial⟩, trivial⟩ (ltb rfl), ⟨ltb rfl, trivial⟩, ⟨⟨trivial, ltb rfl, ltb rfl, ltb rfl, ltb rfl, trivial⟩, trivial⟩, trivial⟩
set_option maxHeartbeats 4000000 in
set_option maxRecDepth 100000 in
theorem c_srB03 (C : List (List Int)) (a b : List Int) (ha : LineOk a) (hb : LineOk b) {now : List Int} (hn : now.length = 3) (hl : LineOk now) {o : List (List Int)} (ho : o.length ≤ 1000000) :
  ACall Tryz.prog 180 (eInts now :: [.ptr 28 0, .ptr 31 0, .ptr 27 0, .ptr 32 0]) (hp (srBL3 C a b o)) (.ret (nb true)) (hp (srBL3 C a b (o ++ [now].filter (btP a b)))) := by
 refine fn_keep (m := false) (fn := Tryz.f180) (c := (Tryz.f180.body).getD .skip) (p := 33) mixed (by kernel_rfl) (by kernel_rfl) (of_decide_eq_true (by kernel_rfl)) rfl (srBL3_numd C a b _) (srBL3_numd C a b _) rfl rfl (srBL3_under C a b _) ?_
 refine If.mk (fun _ => ?_) (fun h => absurd ((show (now.length : Int) = 3 by omega)) h)
 refine ifY ?_
 refine RoundG.intro (m := false) mixed rfl rfl (show ∀ s ∈ (#[12] : Array Tmp), s < 18 by decide) ?_
 refine ⟨rfl, _, rfl, rfl, ?_⟩
 refine RoundG.introF (m := false) mixed rfl rfl (by decide) ?_
 refine ⟨rfl, _, rfl, rfl, [(4, .ptr 1 0), (5, .ptr 2 0), (8, .ptr 3 0), (9, eInts now)], [(0, vbBox C), (1, .box [eInts a] 30), (2, .box [eInts b] 30), (3, .box [.sl o.length (o.map eInts) (.own 5 o.length 1)] 38), (4, vbBox C), (5, .row o.length), (6, .defd), (7, lpB Tryz.f33 .busy [(4, .ptr 1 0), (5, .ptr 2 0), (8, .ptr 3 0), (26, .fn (.func 140) [] [.ptr 4 0])] 6), (8, .box [.yld 7] 109), (9, .box [n' 3] 3), (10, .box [n' 0] 3), (11, .defd), (12, lpB Tryz.f140 .exhausted [(1, .ptr 4 0), (2, .ptr 8 0), (5, n' 0), (11, .fn (.func 179) [] [.ptr 10 0, .ptr 9 0])] 11), (13, .box [.yld 12] 109), (14, .box [.fn (.func 180) [] [.ptr 10 0, .ptr 13 0, .ptr 9 0, .ptr 14 0]] 109), (15, .box [n' 3] 3), (16, .box [n' 1] 3), (17, .defd), (18, lpB Tryz.f140 .exhausted [(1, .ptr 4 0), (2, .ptr 8 0), (5, n' 1), (11, .fn (.func 179) [] [.ptr 16 0, .ptr 15 0])] 17), (19, .box [.yld 18] 109), (20, .box [.fn (.func 180) [] [.ptr 16 0, .ptr 19 0, .ptr 15 0, .ptr 20 0]] 109), (21, .box [n' 3] 3), (22, .box [n' 2] 3), (23, .defd), (24, lpB Tryz.f140 .exhausted [(1, .ptr 4 0), (2, .ptr 8 0), (5, n' 2), (11, .fn (.func 179) [] [.ptr 22 0, .ptr 21 0])] 23), (25, .box [.yld 24] 109), (26, .box [.fn (.func 180) [] [.ptr 22 0, .ptr 25 0, .ptr 21 0, .ptr 26 0]] 109), (27, .box [n' 3] 3), (28, .box [n' 3] 3), (29, .defd), (30, lpB Tryz.f140 .busy [(1, .ptr 4 0), (2, .ptr 8 0), (5, n' 3), (11, .fn (.func 179) [] [.ptr 28 0, .ptr 27 0])] 29), (31, .box [.yld 30] 109), (32, .box [.fn (.func 180) [] [.ptr 28 0, .ptr 31 0, .ptr 27 0, .ptr 32 0]] 109)], 33, rfl, ⟨⟨_, rfl, Weak.refl _ _⟩, ⟨_, rfl, Weak.refl _ _⟩, ⟨_, rfl, Weak.refl _ _⟩, ⟨_, rfl, Weak.refl _ _⟩, trivial⟩, ⟨bk rfl rfl, bk rfl rfl, bk rfl rfl, bk rfl rfl, bk rfl rfl, bk rfl rfl, bk rfl rfl, bk rfl rfl, bk rfl rfl, bk rfl rfl, bk rfl rfl, bk rfl rfl, bk rfl rfl, bk rfl rfl, bk rfl rfl, bk rfl rfl, bk rfl rfl, bk rfl rfl, bk rfl rfl, bk rfl rfl, bk rfl rfl, bk rfl rfl, bk rfl rfl, bk rfl rfl, bk rfl rfl, bk rfl rfl, bk rfl rfl, bk rfl rfl, bk rfl rfl, bk rfl rfl, bk rfl rfl, bk rfl rfl, bk rfl rfl, trivial⟩, ?_⟩
 refine CallG.pure _ (c_between ha.1 hl.1) ?_
 refine CallG.pure _ (c_between hl.1 hb.1) ?_
 have g1 := ed_le a now
 have g2 := ed_le now b
 have g3 := ed_le a b
 have g4 := ha.1
 have g5 := hb.1
 have g6 := hl.1
 refine CallG.weak _ (.cons (fun H => WeakH.tail _ _ _ H) (.nil)) (c_vsum (l := [((edL a now : Nat) : Int), ((edL now b : Nat) : Int)]) (by simp) (by intro x hx; simp only [List.mem_cons, List.not_mem_nil, or_false] at hx; rcases hx with rfl | rfl <;> omega)) ?_
 refine CallG.pure _ (c_between ha.1 hb.1) ?_
 have es : sumI [((edL a now : Nat) : Int), ((edL now b : Nat) : Int)] = ((edL a now : Nat) : Int) + ((edL now b : Nat) : Int) := by unfold sumI; simp
 refine If.mk (fun h1 => ?_) (fun h1 => ?_)
 ·refine ifY ?_
  have hp : btP a b now = true := decide_eq_true (by rw [es] at h1; omega)
  refine ex_app _ _ (app_line (List.length_map _) (by omega) rfl) ?_
  refine ⟨_, _, rfl, rfl, ?_⟩
  refine ifN ?_
  refine ⟨_, _, rfl, rfl, ?_⟩
  refine ⟨.inl rfl, ?_, FinF.mk _ rfl rfl rfl⟩
  have e : (o ++ [now]).length = o.length + 1 := by simp
  rw [List.filter_cons_of_pos hp, List.filter_nil]
  refine ⟨bk rfl rfl, bk rfl rfl, bk rfl rfl, ⟨?_, ltb rfl⟩, bk rfl rfl, ⟨?_, ltb rfl⟩, bk rfl rfl, bk rfl rfl, bk rfl rfl, bk rfl rfl, bk rfl rfl, bk rfl rfl, bk rfl rfl, bk rfl rfl, bk rfl rfl, bk rfl rfl, bk rfl rfl, bk rfl rfl, bk rfl rfl, bk rfl rfl, bk rfl rfl, bk rfl rfl, bk rfl rfl, bk rfl rfl, bk rfl rfl, bk rfl rfl, bk rfl rfl, bk rfl rfl, bk rfl rfl, bk rfl rfl, bk rfl rfl, bk rfl rfl, bk rfl rfl, trivial⟩
  ·show _ = some (Blk.box [.sl (o ++ [now]).length ((o ++ [now]).map eInts) (.own 5 (o ++ [now]).length 1)] 38)
   rw [List.map_append, e]
   rfl
  ·show _ = some (Blk.row (o ++ [now]).length)
   rw [e]
   rfl
 ·refine ifN ?_
  have hp : ¬ btP a b now = true := fun h => h1 (by have := of_decide_eq_true h; rw [es]; omega)
  refine ⟨_, _, rfl, rfl, ?_⟩
  refine ifN ?_
  refine ⟨_, _, rfl, rfl, ?_⟩
  rw [List.filter_cons_of_neg hp, List.filter_nil, List.append_nil]
  refine ⟨.inl rfl, ⟨bk rfl rfl, bk rfl rfl, bk rfl rfl, bk rfl rfl, bk rfl rfl, bk rfl rfl, bk rfl rfl, bk rfl rfl, bk rfl rfl, bk rfl rfl, bk rfl rfl, bk rfl rfl, bk rfl rfl, bk rfl rfl, bk rfl rfl, bk rfl rfl, bk rfl rfl, bk rfl rfl, bk rfl rfl, bk rfl rfl, bk rfl rfl, bk rfl rfl, bk rfl rfl, bk rfl rfl, bk rfl rfl, bk rfl rfl, bk rfl rfl, bk rfl rfl, bk rfl rfl, bk rfl rfl, bk rfl rfl, bk rfl rfl, bk rfl rfl, trivial⟩, FinF.mk _ rfl rfl rfl⟩
set_option maxHeartbeats 4000000 in
set_option maxRecDepth 100000 in
theorem c_srB3 (C : List (List Int)) (a b : List Int) (ha : LineOk a) (hb : LineOk b) : ∀ (d : Nat) {now : List Int} {o : List (List Int)} (_ : now.length + d = 3) (_ : ∀ x ∈ now, 0 ≤ x ∧ x < 3) (_ : o.length + (srchW 3 d now).length ≤ 1000000),
  ACall Tryz.prog 180 (eInts now :: [.ptr 28 0, .ptr 31 0, .ptr 27 0, .ptr 32 0]) (hp (srBL3 C a b o)) (.ret (nb true)) (hp (srBL3 C a b (o ++ (srchW 3 d now).filter (btP a b))))
 | 0, now, o, hn, hx, hh => c_srB03 C a b ha hb hn ⟨by omega, hx⟩ (by omega)
 | d + 1, now, o, hn, hx, hh => by
  rw [← srcU_full] at hh ⊢
  refine fn_keep (m := false) (fn := Tryz.f180) (c := (Tryz.f180.body).getD .skip) (p := 33) mixed (by kernel_rfl) (by kernel_rfl) (of_decide_eq_true (by kernel_rfl)) rfl (srBL3_numd C a b _) (srBL3_numd C a b _) rfl rfl (srBL3_under C a b _) ?_
  refine If.mk (fun h => absurd h ((show ¬ ((now.length : Int) = 3) by omega))) (fun _ => ?_)
  refine ifN ?_
  refine LoopG.at (n0 := 33) rfl (loop_up mixed (m := false) (fun r => [(0, eInts now), (1, .ptr 28 0), (2, .ptr 31 0), (3, .ptr 27 0), (4, .ptr 32 0), (15, n' 3), (16, n' r)]) (fun r => srBL3 C a b (o ++ (srcU d now r).filter (btP a b))) (fun _ => True) 3 1 (leb rfl) trivial ?_ ?_ ?_)
  ·exact ⟨⟨_, rfl, Weak.refl _ _, under_eInts _ _⟩, wp rfl (ltb rfl), wp rfl (ltb rfl), wp rfl (ltb rfl), wp rfl (ltb rfl), wp rfl trivial, wp rfl trivial, trivial⟩
  ·show Blks _ _ (srBL3 C a b (o ++ (srcU d now 0).filter (btP a b)))
   rw [srcU_zero, List.filter_nil, List.append_nil]
   exact ⟨bk rfl rfl, bk rfl rfl, bk rfl rfl, bk rfl rfl, bk rfl rfl, bk rfl rfl, bk rfl rfl, bk rfl rfl, bk rfl rfl, bk rfl rfl, bk rfl rfl, bk rfl rfl, bk rfl rfl, bk rfl rfl, bk rfl rfl, bk rfl rfl, bk rfl rfl, bk rfl rfl, bk rfl rfl, bk rfl rfl, bk rfl rfl, bk rfl rfl, bk rfl rfl, bk rfl rfl, bk rfl rfl, bk rfl rfl, bk rfl rfl, bk rfl rfl, bk rfl rfl, bk rfl rfl, bk rfl rfl, bk rfl rfl, bk rfl rfl, trivial⟩
  ·intro r hr _
   refine If.mk (fun h1 => ?_) (fun h1 => ?_)
   ·refine ifY ?_
    refine CallG.cloneI (by omega) (leb rfl) ?_
    refine ex_app _ _ (app_int (List.length_map _) (by omega) rfl) ?_
    have hs := srcU_succ d now r
    have hsl := congrArg List.length hs
    rw [List.length_append] at hsl
    have hle := srcU_le (d := d) (now := now) (show r + 1 ≤ 3 by omega)
    have hfl := List.length_filter_le (btP a b) (srcU d now r)
    refine CallG.pre (eInts (now ++ [(r : Int)]) :: [.ptr 28 0, .ptr 31 0, .ptr 27 0, .ptr 32 0]) (srBL3 C a b (o ++ (srcU d now r).filter (btP a b))) (srBL3 C a b (o ++ (srcU d now (r + 1)).filter (btP a b))) (nb true) 1 (.cons (fun H => wk_snoc H) (.cons (fun H => WeakH.refl _ H) (.cons (fun H => WeakH.refl _ H) (.cons (fun H => WeakH.refl _ H) (.cons (fun H => WeakH.refl _ H) .nil)))))
     (srBL3_numd C a b _) (srBL3_numd C a b _) rfl (srBL3_marks C a b _ _) ⟨bk rfl rfl, bk rfl rfl, bk rfl rfl, bk rfl rfl, bk rfl rfl, bk rfl rfl, bk rfl rfl, bk rfl rfl, bk rfl rfl, bk rfl rfl, bk rfl rfl, bk rfl rfl, bk rfl rfl, bk rfl rfl, bk rfl rfl, bk rfl rfl, bk rfl rfl, bk rfl rfl, bk rfl rfl, bk rfl rfl, bk rfl rfl, bk rfl rfl, bk rfl rfl, bk rfl rfl, bk rfl rfl, bk rfl rfl, bk rfl rfl, bk rfl rfl, bk rfl rfl, bk rfl rfl, bk rfl rfl, bk rfl rfl, bk rfl rfl, trivial⟩ rfl ⟨under_eInts _ _, ltb rfl, ltb rfl, ltb rfl, ltb rfl, trivial⟩ rfl (srBL3_under C a b _) (srBL3_under C a b _) ?_ ?_
    ·rw [hs, List.filter_append, ← List.append_assoc]
     refine c_srB3 C a b ha hb d (by rw [List.length_append, List.length_singleton]; omega) (fun x hx' => ?_) (by rw [List.length_append]; omega)
     rcases List.mem_append.1 hx' with h | h
     ·exact hx x h
     ·rw [List.mem_singleton] at h; omega
    ·refine ifN ?_
     refine Side.mk (fits64 (by omega)) ?_
     exact ⟨leb rfl, rfl, by omega, trivial, ⟨⟨_, rfl, Weak.refl _ _, under_eInts _ _⟩, wp rfl (ltb rfl), wp rfl (ltb rfl), wp rfl (ltb rfl), wp rfl (ltb rfl), wp rfl trivial, wp rfl trivial, trivial⟩, ⟨bk rfl rfl, bk rfl rfl, bk rfl rfl, bk rfl rfl, bk rfl rfl, bk rfl rfl, bk rfl rfl, bk rfl rfl, bk rfl rfl, bk rfl rfl, bk rfl rfl, bk rfl rfl, bk rfl rfl, bk rfl rfl, bk rfl rfl, bk rfl rfl, bk rfl rfl, bk rfl rfl, bk rfl rfl, bk rfl rfl, bk rfl rfl, bk rfl rfl, bk rfl rfl, bk rfl rfl, bk rfl rfl, bk rfl rfl, bk rfl rfl, bk rfl rfl, bk rfl rfl, bk rfl rfl, bk rfl rfl, bk rfl rfl, bk rfl rfl, trivial⟩, ⟨_, rfl, under_eInts _ _, trivial⟩, ⟨_, rfl, under_eInts _ _, trivial⟩, ⟨_, rfl, ⟨unders_map (under_eInts _) _, ltb rfl⟩, trivial⟩, ⟨_, rfl, vbBox_under _ _⟩, ⟨_, rfl, trivial⟩, ⟨_, rfl, trivial⟩, ⟨_, rfl, under_lpB ⟨ltb rfl, ltb rfl, ltb rfl, ⟨trivial, ltb rfl, trivial⟩, trivial⟩ (ltb rfl)⟩, ⟨_, rfl, ltb rfl, trivial⟩, ⟨_, rfl, trivial, trivial⟩, ⟨_, rfl, trivial, trivial⟩, ⟨_, rfl, trivial⟩, ⟨_, rfl, under_lpB ⟨ltb rfl, ltb rfl, trivial, ⟨trivial, ltb rfl, ltb rfl, trivial⟩, trivial⟩ (ltb rfl)⟩, ⟨_, rfl, ltb rfl, trivial⟩, ⟨_, rfl, ⟨trivial, ltb rfl, ltb rfl, ltb rfl, ltb rfl, trivial⟩, trivial⟩, ⟨_, rfl, trivial, trivial⟩, ⟨_, rfl, trivial, trivial⟩, ⟨_, rfl, trivial⟩, ⟨_, rfl, under_lpB ⟨ltb rfl, ltb rfl, trivial, ⟨trivial, ltb rfl, ltb rfl, trivial⟩, trivial⟩ (ltb rfl)⟩, ⟨_, rfl, ltb rfl, trivial⟩, ⟨_, rfl, ⟨trivial, ltb rfl, ltb rfl, ltb rfl, ltb rfl, trivial⟩, trivial⟩, ⟨_, rfl, trivial, trivial⟩, ⟨_, rfl, trivial, trivial⟩, ⟨_, rfl, trivial⟩, ⟨_, rfl, under_lpB ⟨ltb rfl, ltb rfl, trivial, ⟨trivial, ltb rfl, ltb rfl, trivial⟩, trivial⟩ (ltb rfl)⟩, ⟨_, rfl, ltb rfl, trivial⟩, ⟨_, rfl, ⟨trivial, ltb rfl, ltb rfl, ltb rfl, ltb rfl, trivial⟩, trivial⟩, ⟨_, rfl, trivial, trivial⟩, ⟨_, rfl, trivial, trivial⟩, ⟨_, rfl, trivial⟩, ⟨_, rfl, under_lpB ⟨ltb rfl, ltb rfl, trivial, ⟨trivial, ltb rfl, ltb rfl, trivial⟩, trivial⟩ (ltb rfl)⟩, ⟨_, rfl, ltb rfl, trivial⟩, ⟨_, rfl, ⟨trivial, ltb rfl, ltb rfl, ltb rfl, ltb rfl, trivial⟩, trivial⟩, trivial⟩
   ·refine ifN ?_
    obtain rfl : r = 3 := by omega
    refine ⟨leb rfl, ?_⟩
    exact ⟨.inl rfl, ⟨bk rfl rfl, bk rfl rfl, bk rfl rfl, bk rfl rfl, bk rfl rfl, bk rfl rfl, bk rfl rfl, bk rfl rfl, bk rfl rfl, bk rfl rfl, bk rfl rfl, bk rfl rfl, bk rfl rfl, bk rfl rfl, bk rfl rfl, bk rfl rfl, bk rfl rfl, bk rfl rfl, bk rfl rfl, bk rfl rfl, bk rfl rfl, bk rfl rfl, bk rfl rfl, bk rfl rfl, bk rfl rfl, bk rfl rfl, bk rfl rfl, bk rfl rfl, bk rfl rfl, bk rfl rfl, bk rfl rfl, bk rfl rfl, bk rfl rfl, trivial⟩, FinF.mk _ rfl rfl rfl⟩
noncomputable def srBL4 (C : List (List Int)) (a b : List Int) (o : List (List Int)) : List (Nat × Blk) :=
 [(0, vbBox C), (1, .box [eInts a] 30), (2, .box [eInts b] 30), (3, .box [.sl o.length (o.map eInts) (.own 5 o.length 1)] 38), (4, vbBox C), (5, .row o.length), (6, .defd), (7, lpB Tryz.f33 .ready [(4, .ptr 1 0), (5, .ptr 2 0), (8, .ptr 3 0), (26, .fn (.func 140) [] [.ptr 4 0])] 6), (8, .box [.yld 7] 109), (9, .box [n' 3] 3), (10, .box [n' 0] 3), (11, .defd), (12, lpB Tryz.f140 .exhausted [(1, .ptr 4 0), (2, .ptr 8 0), (5, n' 0), (11, .fn (.func 179) [] [.ptr 10 0, .ptr 9 0])] 11), (13, .box [.yld 12] 109), (14, .box [.fn (.func 180) [] [.ptr 10 0, .ptr 13 0, .ptr 9 0, .ptr 14 0]] 109), (15, .box [n' 3] 3), (16, .box [n' 1] 3), (17, .defd), (18, lpB Tryz.f140 .exhausted [(1, .ptr 4 0), (2, .ptr 8 0), (5, n' 1), (11, .fn (.func 179) [] [.ptr 16 0, .ptr 15 0])] 17), (19, .box [.yld 18] 109), (20, .box [.fn (.func 180) [] [.ptr 16 0, .ptr 19 0, .ptr 15 0, .ptr 20 0]] 109), (21, .box [n' 3] 3), (22, .box [n' 2] 3), (23, .defd), (24, lpB Tryz.f140 .exhausted [(1, .ptr 4 0), (2, .ptr 8 0), (5, n' 2), (11, .fn (.func 179) [] [.ptr 22 0, .ptr 21 0])] 23), (25, .box [.yld 24] 109), (26, .box [.fn (.func 180) [] [.ptr 22 0, .ptr 25 0, .ptr 21 0, .ptr 26 0]] 109), (27, .box [n' 3] 3), (28, .box [n' 3] 3), (29, .defd), (30, lpB Tryz.f140 .exhausted [(1, .ptr 4 0), (2, .ptr 8 0), (5, n' 3), (11, .fn (.func 179) [] [.ptr 28 0, .ptr 27 0])] 29), (31, .box [.yld 30] 109), (32, .box [.fn (.func 180) [] [.ptr 28 0, .ptr 31 0, .ptr 27 0, .ptr 32 0]] 109), (33, .box [n' 3] 3), (34, .box [n' 4] 3), (35, .defd), (36, lpB Tryz.f140 .ready [(1, .ptr 4 0), (2, .ptr 8 0), (5, n' 4), (11, .fn (.func 179) [] [.ptr 34 0, .ptr 33 0])] 35), (37, .box [.yld 36] 109), (38, .box [.fn (.func 180) [] [.ptr 34 0, .ptr 37 0, .ptr 33 0, .ptr 38 0]] 109)]
theorem srBL4_numd (C : List (List Int)) (a b : List Int) (o : List (List Int)) : Numd 0 (srBL4 C a b o) := ⟨rfl, rfl, rfl, rfl, rfl, rfl, rfl, rfl, rfl, rfl, rfl, rfl, rfl, rfl, rfl, rfl, rfl, rfl, rfl, rfl, rfl, rfl, rfl, rfl, rfl, rfl, rfl, rfl, rfl, rfl, rfl, rfl, rfl, rfl, rfl, rfl, rfl, rfl, rfl, trivial⟩
theorem srBL4_marks (C : List (List Int)) (a b : List Int) (o o' : List (List Int)) : MarksL (srBL4 C a b o) (srBL4 C a b o') :=
 .cons (fun e => e) (.cons (fun e => e) (.cons (fun e => e) (.cons (fun e => by cases e) (.cons (fun e => e) (.cons (fun e => by cases e) (MarksL.same _))))))
theorem srBL4_under (C : List (List Int)) (a b : List Int) (o : List (List Int)) : ∀ q ∈ srBL4 C a b o, q.2.under 39 :=
 UnderL.mem (l := srBL4 C a b o) ⟨vbBox_under _ _, ⟨under_eInts _ _, trivial⟩, ⟨under_eInts _ _, trivial⟩, ⟨⟨unders_map (under_eInts _) _, ltb rfl⟩, trivial⟩, vbBox_under _ _, trivial, trivial, under_lpB ⟨ltb rfl, ltb rfl, ltb rfl, ⟨trivial, ltb rfl, trivial⟩, trivial⟩ (ltb rfl), ⟨ltb rfl, trivial⟩, ⟨trivial, trivial⟩, ⟨trivial, trivial⟩, trivial, under_lpB ⟨ltb rfl, ltb rfl, trivial, ⟨trivial, ltb rfl, ltb rfl, trivial⟩, trivial⟩ (ltb rfl), ⟨ltb rfl, trivial⟩, ⟨⟨trivial, ltb rfl, ltb rfl, ltb rfl, ltb rfl, trivial⟩, trivial⟩, ⟨trivial, trivial⟩, ⟨trivial, trivial⟩, trivial, under_lpB ⟨ltb rfl, ltb rfl, trivial, ⟨trivial, ltb rfl, ltb rfl, trivial⟩, trivial⟩ (ltb rfl), ⟨ltb rfl, trivial⟩, ⟨⟨trivial, ltb rfl, ltb rfl, ltb rfl, ltb rfl, trivial⟩, trivial⟩, ⟨trivial, trivial⟩, ⟨trivial, trivial⟩, trivial, under_lpB ⟨ltb rfl, ltb rfl, trivial, ⟨trivial, ltb rfl, ltb rfl, trivial⟩, trivial⟩ (ltb rfl), ⟨ltb rfl, trivial⟩, ⟨⟨trivial, ltb rfl, ltb rfl, ltb rfl, ltb rfl, trivial⟩, trivial⟩, ⟨trivial, trivial⟩, ⟨trivial, trivial⟩, trivial, under_lpB ⟨ltb rfl, ltb rfl, trivial, ⟨trivial, ltb rfl, ltb rfl, trivial⟩, trivial⟩ (ltb rfl), ⟨ltb rfl, trivial⟩, ⟨⟨trivial, ltb rfl, ltb rfl, ltb rfl, ltb rfl, trivial⟩, trivial⟩, ⟨trivial, trivial⟩, ⟨trivial, trivial⟩, trivial, under_lpB ⟨ltb rfl, ltb rfl, trivial, ⟨trivial, ltb rfl, ltb rfl, trivial⟩, trivial⟩ (ltb rfl), ⟨ltb rfl, trivial⟩, ⟨⟨trivial, ltb rfl, ltb rfl, ltb rfl, ltb rfl, trivial⟩, trivial⟩, trivial⟩
set_option maxHeartbeats 4000000 in
set_option maxRecDepth 100000 in
theorem c_srB04 (C : List (List Int)) (a b : List Int) (ha : LineOk a) (hb : LineOk b) {now : List Int} (hn : now.length = 4) (hl : LineOk now) {o : List (List Int)} (ho : o.length ≤ 1000000) :
  ACall Tryz.prog 180 (eInts now :: [.ptr 34 0, .ptr 37 0, .ptr 33 0, .ptr 38 0]) (hp (srBL4 C a b o)) (.ret (nb true)) (hp (srBL4 C a b (o ++ [now].filter (btP a b)))) := by
 refine fn_keep (m := false) (fn := Tryz.f180) (c := (Tryz.f180.body).getD .skip) (p := 39) mixed (by kernel_rfl) (by kernel_rfl) (of_decide_eq_true (by kernel_rfl)) rfl (srBL4_numd C a b _) (srBL4_numd C a b _) rfl rfl (srBL4_under C a b _) ?_
 refine If.mk (fun _ => ?_) (fun h => absurd ((show (now.length : Int) = 4 by omega)) h)
 refine ifY ?_
 refine RoundG.intro (m := false) mixed rfl rfl (show ∀ s ∈ (#[12] : Array Tmp), s < 18 by decide) ?_
 refine ⟨rfl, _, rfl, rfl, ?_⟩
 refine RoundG.introF (m := false) mixed rfl rfl (by decide) ?_
 refine ⟨rfl, _, rfl, rfl, [(4, .ptr 1 0), (5, .ptr 2 0), (8, .ptr 3 0), (9, eInts now)], [(0, vbBox C), (1, .box [eInts a] 30), (2, .box [eInts b] 30), (3, .box [.sl o.length (o.map eInts) (.own 5 o.length 1)] 38), (4, vbBox C), (5, .row o.length), (6, .defd), (7, lpB Tryz.f33 .busy [(4, .ptr 1 0), (5, .ptr 2 0), (8, .ptr 3 0), (26, .fn (.func 140) [] [.ptr 4 0])] 6), (8, .box [.yld 7] 109), (9, .box [n' 3] 3), (10, .box [n' 0] 3), (11, .defd), (12, lpB Tryz.f140 .exhausted [(1, .ptr 4 0), (2, .ptr 8 0), (5, n' 0), (11, .fn (.func 179) [] [.ptr 10 0, .ptr 9 0])] 11), (13, .box [.yld 12] 109), (14, .box [.fn (.func 180) [] [.ptr 10 0, .ptr 13 0, .ptr 9 0, .ptr 14 0]] 109), (15, .box [n' 3] 3), (16, .box [n' 1] 3), (17, .defd), (18, lpB Tryz.f140 .exhausted [(1, .ptr 4 0), (2, .ptr 8 0), (5, n' 1), (11, .fn (.func 179) [] [.ptr 16 0, .ptr 15 0])] 17), (19, .box [.yld 18] 109), (20, .box [.fn (.func 180) [] [.ptr 16 0, .ptr 19 0, .ptr 15 0, .ptr 20 0]] 109), (21, .box [n' 3] 3), (22, .box [n' 2] 3), (23, .defd), (24, lpB Tryz.f140 .exhausted [(1, .ptr 4 0), (2, .ptr 8 0), (5, n' 2), (11, .fn (.func 179) [] [.ptr 22 0, .ptr 21 0])] 23), (25, .box [.yld 24] 109), (26, .box [.fn (.func 180) [] [.ptr 22 0, .ptr 25 0, .ptr 21 0, .ptr 26 0]] 109), (27, .box [n' 3] 3), (28, .box [n' 3] 3), (29, .defd), (30, lpB Tryz.f140 .exhausted [(1, .ptr 4 0), (2, .ptr 8 0), (5, n' 3), (11, .fn (.func 179) [] [.ptr 28 0, .ptr 27 0])] 29), (31, .box [.yld 30] 109), (32, .box [.fn (.func 180) [] [.ptr 28 0, .ptr 31 0, .ptr 27 0, .ptr 32 0]] 109), (33, .box [n' 3] 3), (34, .box [n' 4] 3), (35, .defd), (36, lpB Tryz.f140 .busy [(1, .ptr 4 0), (2, .ptr 8 0), (5, n' 4), (11, .fn (.func 179) [] [.ptr 34 0, .ptr 33 0])] 35), (37, .box [.yld 36] 109), (38, .box [.fn (.func 180) [] [.ptr 34 0, .ptr 37 0, .ptr 33 0, .ptr 38 0]] 109)], 39, rfl, ⟨⟨_, rfl, Weak.refl _ _⟩, ⟨_, rfl, Weak.refl _ _⟩, ⟨_, rfl, Weak.refl _ _⟩, ⟨_, rfl, Weak.refl _ _⟩, trivial⟩, ⟨bk rfl rfl, bk rfl rfl, bk rfl rfl, bk rfl rfl, bk rfl rfl, bk rfl rfl, bk rfl rfl, bk rfl rfl, bk rfl rfl, bk rfl rfl, bk rfl rfl, bk rfl rfl, bk rfl rfl, bk rfl rfl, bk rfl rfl, bk rfl rfl, bk rfl rfl, bk rfl rfl, bk rfl rfl, bk rfl rfl, bk rfl rfl, bk rfl rfl, bk rfl rfl, bk rfl rfl, bk rfl rfl, bk rfl rfl, bk rfl rfl, bk rfl rfl, bk rfl rfl, bk rfl rfl, bk rfl rfl, bk rfl rfl, bk rfl rfl, bk rfl rfl, bk rfl rfl, bk rfl rfl, bk rfl rfl, bk rfl rfl, bk rfl rfl, trivial⟩, ?_⟩
 refine CallG.pure _ (c_between ha.1 hl.1) ?_
 refine CallG.pure _ (c_between hl.1 hb.1) ?_
 have g1 := ed_le a now
 have g2 := ed_le now b
 have g3 := ed_le a b
 have g4 := ha.1
 have g5 := hb.1
 have g6 := hl.1
 refine CallG.weak _ (.cons (fun H => WeakH.tail _ _ _ H) (.nil)) (c_vsum (l := [((edL a now : Nat) : Int), ((edL now b : Nat) : Int)]) (by simp) (by intro x hx; simp only [List.mem_cons, List.not_mem_nil, or_false] at hx; rcases hx with rfl | rfl <;> omega)) ?_
 refine CallG.pure _ (c_between ha.1 hb.1) ?_
 have es : sumI [((edL a now : Nat) : Int), ((edL now b : Nat) : Int)] = ((edL a now : Nat) : Int) + ((edL now b : Nat) : Int) := by unfold sumI; simp
 refine If.mk (fun h1 => ?_) (fun h1 => ?_)
 ·refine ifY ?_
  have hp : btP a b now = true := decide_eq_true (by rw [es] at h1; omega)
  refine ex_app _ _ (app_line (List.length_map _) (by omega) rfl) ?_
  refine ⟨_, _, rfl, rfl, ?_⟩
  refine ifN ?_
  refine ⟨_, _, rfl, rfl, ?_⟩
  refine ⟨.inl rfl, ?_, FinF.mk _ rfl rfl rfl⟩
  have e : (o ++ [now]).length = o.length + 1 := by simp
  rw [List.filter_cons_of_pos hp, List.filter_nil]
  refine ⟨bk rfl rfl, bk rfl rfl, bk rfl rfl, ⟨?_, ltb rfl⟩, bk rfl rfl, ⟨?_, ltb rfl⟩, bk rfl rfl, bk rfl rfl, bk rfl rfl, bk rfl rfl, bk rfl rfl, bk rfl rfl, bk rfl rfl, bk rfl rfl, bk rfl rfl, bk rfl rfl, bk rfl rfl, bk rfl rfl, bk rfl rfl, bk rfl rfl, bk rfl rfl, bk rfl rfl, bk rfl rfl, bk rfl rfl, bk rfl rfl, bk rfl rfl, bk rfl rfl, bk rfl rfl, bk rfl rfl, bk rfl rfl, bk rfl rfl, bk rfl rfl, bk rfl rfl, bk rfl rfl, bk rfl rfl, bk rfl rfl, bk rfl rfl, bk rfl rfl, bk rfl rfl, trivial⟩
  ·show _ = some (Blk.box [.sl (o ++ [now]).length ((o ++ [now]).map eInts) (.own 5 (o ++ [now]).length 1)] 38)
   rw [List.map_append, e]
   rfl
  ·show _ = some (Blk.row (o ++ [now]).length)
   rw [e]
   rfl
 ·refine ifN ?_
  have hp : ¬ btP a b now = true := fun h => h1 (by have := of_decide_eq_true h; rw [es]; omega)
  refine ⟨_, _, rfl, rfl, ?_⟩
  refine ifN ?_
  refine ⟨_, _, rfl, rfl, ?_⟩
  rw [List.filter_cons_of_neg hp, List.filter_nil, List.append_nil]
  refine ⟨.inl rfl, ⟨bk rfl rfl, bk rfl rfl, bk rfl rfl, bk rfl rfl, bk rfl rfl, bk rfl rfl, bk rfl rfl, bk rfl rfl, bk rfl rfl, bk rfl rfl, bk rfl rfl, bk rfl rfl, bk rfl rfl, bk rfl rfl, bk rfl rfl, bk rfl rfl, bk rfl rfl, bk rfl rfl, bk rfl rfl, bk rfl rfl, bk rfl rfl, bk rfl rfl, bk rfl rfl, bk rfl rfl, bk rfl rfl, bk rfl rfl, bk rfl rfl, bk rfl rfl, bk rfl rfl, bk rfl rfl, bk rfl rfl, bk rfl rfl, bk rfl rfl, bk rfl rfl, bk rfl rfl, bk rfl rfl, bk rfl rfl, bk rfl rfl, bk rfl rfl, trivial⟩, FinF.mk _ rfl rfl rfl⟩
set_option maxHeartbeats 4000000 in
set_option maxRecDepth 100000 in
theorem c_srB4 (C : List (List Int)) (a b : List Int) (ha : LineOk a) (hb : LineOk b) : ∀ (d : Nat) {now : List Int} {o : List (List Int)} (_ : now.length + d = 4) (_ : ∀ x ∈ now, 0 ≤ x ∧ x < 3) (_ : o.length + (srchW 3 d now).length ≤ 1000000),
  ACall Tryz.prog 180 (eInts now :: [.ptr 34 0, .ptr 37 0, .ptr 33 0, .ptr 38 0]) (hp (srBL4 C a b o)) (.ret (nb true)) (hp (srBL4 C a b (o ++ (srchW 3 d now).filter (btP a b))))
 | 0, now, o, hn, hx, hh => c_srB04 C a b ha hb hn ⟨by omega, hx⟩ (by omega)
 | d + 1, now, o, hn, hx, hh => by
  rw [← srcU_full] at hh ⊢
  refine fn_keep (m := false) (fn := Tryz.f180) (c := (Tryz.f180.body).getD .skip) (p := 39) mixed (by kernel_rfl) (by kernel_rfl) (of_decide_eq_true (by kernel_rfl)) rfl (srBL4_numd C a b _) (srBL4_numd C a b _) rfl rfl (srBL4_under C a b _) ?_
  refine If.mk (fun h => absurd h ((show ¬ ((now.length : Int) = 4) by omega))) (fun _ => ?_)
  refine ifN ?_
  refine LoopG.at (n0 := 39) rfl (loop_up mixed (m := false) (fun r => [(0, eInts now), (1, .ptr 34 0), (2, .ptr 37 0), (3, .ptr 33 0), (4, .ptr 38 0), (15, n' 3), (16, n' r)]) (fun r => srBL4 C a b (o ++ (srcU d now r).filter (btP a b))) (fun _ => True) 3 1 (leb rfl) trivial ?_ ?_ ?_)
  ·exact ⟨⟨_, rfl, Weak.refl _ _, under_eInts _ _⟩, wp rfl (ltb rfl), wp rfl (ltb rfl), wp rfl (ltb rfl), wp rfl (ltb rfl), wp rfl trivial, wp rfl trivial, trivial⟩
  ·show Blks _ _ (srBL4 C a b (o ++ (srcU d now 0).filter (btP a b)))
   rw [srcU_zero, List.filter_nil, List.append_nil]
   exact ⟨bk rfl rfl, bk rfl rfl, bk rfl rfl, bk rfl rfl, bk rfl rfl, bk rfl rfl, bk rfl rfl, bk rfl rfl, bk rfl rfl, bk rfl rfl, bk rfl rfl, bk rfl rfl, bk rfl rfl, bk rfl rfl, bk rfl rfl, bk rfl rfl, bk rfl rfl, bk rfl rfl, bk rfl rfl, bk rfl rfl, bk rfl rfl, bk rfl rfl, bk rfl rfl, bk rfl rfl, bk rfl rfl, bk rfl rfl, bk rfl rfl, bk rfl rfl, bk rfl rfl, bk rfl rfl, bk rfl rfl, bk rfl rfl, bk rfl rfl, bk rfl rfl, bk rfl rfl, bk rfl rfl, bk rfl rfl, bk rfl rfl, bk rfl rfl, trivial⟩
  ·intro r hr _
   refine If.mk (fun h1 => ?_) (fun h1 => ?_)
   ·refine ifY ?_
    refine CallG.cloneI (by omega) (leb rfl) ?_
    refine ex_app _ _ (app_int (List.length_map _) (by omega) rfl) ?_
    have hs := srcU_succ d now r
    have hsl := congrArg List.length hs
    rw [List.length_append] at hsl
    have hle := srcU_le (d := d) (now := now) (show r + 1 ≤ 3 by omega)
    have hfl := List.length_filter_le (btP a b) (srcU d now r)
    refine CallG.pre (eInts (now ++ [(r : Int)]) :: [.ptr 34 0, .ptr 37 0, .ptr 33 0, .ptr 38 0]) (srBL4 C a b (o ++ (srcU d now r).filter (btP a b))) (srBL4 C a b (o ++ (srcU d now (r + 1)).filter (btP a b))) (nb true) 1 (.cons (fun H => wk_snoc H) (.cons (fun H => WeakH.refl _ H) (.cons (fun H => WeakH.refl _ H) (.cons (fun H => WeakH.refl _ H) (.cons (fun H => WeakH.refl _ H) .nil)))))
     (srBL4_numd C a b _) (srBL4_numd C a b _) rfl (srBL4_marks C a b _ _) ⟨bk rfl rfl, bk rfl rfl, bk rfl rfl, bk rfl rfl, bk rfl rfl, bk rfl rfl, bk rfl rfl, bk rfl rfl, bk rfl rfl, bk rfl rfl, bk rfl rfl, bk rfl rfl, bk rfl rfl, bk rfl rfl, bk rfl rfl, bk rfl rfl, bk rfl rfl, bk rfl rfl, bk rfl rfl, bk rfl rfl, bk rfl rfl, bk rfl rfl, bk rfl rfl, bk rfl rfl, bk rfl rfl, bk rfl rfl, bk rfl rfl, bk rfl rfl, bk rfl rfl, bk rfl rfl, bk rfl rfl, bk rfl rfl, bk rfl rfl, bk rfl rfl, bk rfl rfl, bk rfl rfl, bk rfl rfl, bk rfl rfl, bk rfl rfl, trivial⟩ rfl ⟨under_eInts _ _, ltb rfl, ltb rfl, ltb rfl, ltb rfl, trivial⟩ rfl (srBL4_under C a b _) (srBL4_under C a b _) ?_ ?_
    ·rw [hs, List.filter_append, ← List.append_assoc]
     refine c_srB4 C a b ha hb d (by rw [List.length_append, List.length_singleton]; omega) (fun x hx' => ?_) (by rw [List.length_append]; omega)
     rcases List.mem_append.1 hx' with h | h
     ·exact hx x h
     ·rw [List.mem_singleton] at h; omega
    ·refine ifN ?_
     refine Side.mk (fits64 (by omega)) ?_
     exact ⟨leb rfl, rfl, by omega, trivial, ⟨⟨_, rfl, Weak.refl _ _, under_eInts _ _⟩, wp rfl (ltb rfl), wp rfl (ltb rfl), wp rfl (ltb rfl), wp rfl (ltb rfl), wp rfl trivial, wp rfl trivial, trivial⟩, ⟨bk rfl rfl, bk rfl rfl, bk rfl rfl, bk rfl rfl, bk rfl rfl, bk rfl rfl, bk rfl rfl, bk rfl rfl, bk rfl rfl, bk rfl rfl, bk rfl rfl, bk rfl rfl, bk rfl rfl, bk rfl rfl, bk rfl rfl, bk rfl rfl, bk rfl rfl, bk rfl rfl, bk rfl rfl, bk rfl rfl, bk rfl rfl, bk rfl rfl, bk rfl rfl, bk rfl rfl, bk rfl rfl, bk rfl rfl, bk rfl rfl, bk rfl rfl, bk rfl rfl, bk rfl rfl, bk rfl rfl, bk rfl rfl, bk rfl rfl, bk rfl rfl, bk rfl rfl, bk rfl rfl, bk rfl rfl, bk rfl rfl, bk rfl rfl, trivial⟩, ⟨_, rfl, under_eInts _ _, trivial⟩, ⟨_, rfl, under_eInts _ _, trivial⟩, ⟨_, rfl, ⟨unders_map (under_eInts _) _, ltb rfl⟩, trivial⟩, ⟨_, rfl, vbBox_under _ _⟩, ⟨_, rfl, trivial⟩, ⟨_, rfl, trivial⟩, ⟨_, rfl, under_lpB ⟨ltb rfl, ltb rfl, ltb rfl, ⟨trivial, ltb rfl, trivial⟩, trivial⟩ (ltb rfl)⟩, ⟨_, rfl, ltb rfl, trivial⟩, ⟨_, rfl, trivial, trivial⟩, ⟨_, rfl, trivial, trivial⟩, ⟨_, rfl, trivial⟩, ⟨_, rfl, under_lpB ⟨ltb rfl, ltb rfl, trivial, ⟨trivial, ltb rfl, ltb rfl, trivial⟩, trivial⟩ (ltb rfl)⟩, ⟨_, rfl, ltb rfl, trivial⟩, ⟨_, rfl, ⟨trivial, ltb rfl, ltb rfl, ltb rfl, ltb rfl, trivial⟩, trivial⟩, ⟨_, rfl, trivial, trivial⟩, ⟨_, rfl, trivial, trivial⟩, ⟨_, rfl, trivial⟩, ⟨_, rfl, under_lpB ⟨ltb rfl, ltb rfl, trivial, ⟨trivial, ltb rfl, ltb rfl, trivial⟩, trivial⟩ (ltb rfl)⟩, ⟨_, rfl, ltb rfl, trivial⟩, ⟨_, rfl, ⟨trivial, ltb rfl, ltb rfl, ltb rfl, ltb rfl, trivial⟩, trivial⟩, ⟨_, rfl, trivial, trivial⟩, ⟨_, rfl, trivial, trivial⟩, ⟨_, rfl, trivial⟩, ⟨_, rfl, under_lpB ⟨ltb rfl, ltb rfl, trivial, ⟨trivial, ltb rfl, ltb rfl, trivial⟩, trivial⟩ (ltb rfl)⟩, ⟨_, rfl, ltb rfl, trivial⟩, ⟨_, rfl, ⟨trivial, ltb rfl, ltb rfl, ltb rfl, ltb rfl, trivial⟩, trivial⟩, ⟨_, rfl, trivial, trivial⟩, ⟨_, rfl, trivial, trivial⟩, ⟨_, rfl, trivial⟩, ⟨_, rfl, under_lpB ⟨ltb rfl, ltb rfl, trivial, ⟨trivial, ltb rfl, ltb rfl, trivial⟩, trivial⟩ (ltb rfl)⟩, ⟨_, rfl, ltb rfl, trivial⟩, ⟨_, rfl, ⟨trivial, ltb rfl, ltb rfl, ltb rfl, ltb rfl, trivial⟩, trivial⟩, ⟨_, rfl, trivial, trivial⟩, ⟨_, rfl, trivial, trivial⟩, ⟨_, rfl, trivial⟩, ⟨_, rfl, under_lpB ⟨ltb rfl, ltb rfl, trivial, ⟨trivial, ltb rfl, ltb rfl, trivial⟩, trivial⟩ (ltb rfl)⟩, ⟨_, rfl, ltb rfl, trivial⟩, ⟨_, rfl, ⟨trivial, ltb rfl, ltb rfl, ltb rfl, ltb rfl, trivial⟩, trivial⟩, trivial⟩
   ·refine ifN ?_
    obtain rfl : r = 3 := by omega
    refine ⟨leb rfl, ?_⟩
    exact ⟨.inl rfl, ⟨bk rfl rfl, bk rfl rfl, bk rfl rfl, bk rfl rfl, bk rfl rfl, bk rfl rfl, bk rfl rfl, bk rfl rfl, bk rfl rfl, bk rfl rfl, bk rfl rfl, bk rfl rfl, bk rfl rfl, bk rfl rfl, bk rfl rfl, bk rfl rfl, bk rfl rfl, bk rfl rfl, bk rfl rfl, bk rfl rfl, bk rfl rfl, bk rfl rfl, bk rfl rfl, bk rfl rfl, bk rfl rfl, bk rfl rfl, bk rfl rfl, bk rfl rfl, bk rfl rfl, bk rfl rfl, bk rfl rfl, bk rfl rfl, bk rfl rfl, bk rfl rfl, bk rfl rfl, bk rfl rfl, bk rfl rfl, bk rfl rfl, bk rfl rfl, trivial⟩, FinF.mk _ rfl rfl rfl⟩
noncomputable def srBT0 (C : List (List Int)) (a b : List Int) (o : List (List Int)) : List (Nat × Blk) :=
 [(0, vbBox C), (1, .box [eInts a] 30), (2, .box [eInts b] 30), (3, .box [.sl o.length (o.map eInts) (.own 5 o.length 1)] 38), (4, vbBox C), (5, .row o.length), (6, .defd), (7, lpB Tryz.f33 .ready [(4, .ptr 1 0), (5, .ptr 2 0), (8, .ptr 3 0), (26, .fn (.func 140) [] [.ptr 4 0])] 6), (8, .box [.yld 7] 109), (9, .box [n' 3] 3), (10, .box [n' 0] 3), (11, .defd), (12, lpB Tryz.f140 .exhausted [(1, .ptr 4 0), (2, .ptr 8 0), (5, n' 0), (11, .fn (.func 179) [] [.ptr 10 0, .ptr 9 0])] 11), (13, .box [.yld 12] 109), (14, .box [.fn (.func 180) [] [.ptr 10 0, .ptr 13 0, .ptr 9 0, .ptr 14 0]] 109)]
noncomputable def srBT1 (C : List (List Int)) (a b : List Int) (o : List (List Int)) : List (Nat × Blk) :=
 [(0, vbBox C), (1, .box [eInts a] 30), (2, .box [eInts b] 30), (3, .box [.sl o.length (o.map eInts) (.own 5 o.length 1)] 38), (4, vbBox C), (5, .row o.length), (6, .defd), (7, lpB Tryz.f33 .ready [(4, .ptr 1 0), (5, .ptr 2 0), (8, .ptr 3 0), (26, .fn (.func 140) [] [.ptr 4 0])] 6), (8, .box [.yld 7] 109), (9, .box [n' 3] 3), (10, .box [n' 0] 3), (11, .defd), (12, lpB Tryz.f140 .exhausted [(1, .ptr 4 0), (2, .ptr 8 0), (5, n' 0), (11, .fn (.func 179) [] [.ptr 10 0, .ptr 9 0])] 11), (13, .box [.yld 12] 109), (14, .box [.fn (.func 180) [] [.ptr 10 0, .ptr 13 0, .ptr 9 0, .ptr 14 0]] 109), (15, .box [n' 3] 3), (16, .box [n' 1] 3), (17, .defd), (18, lpB Tryz.f140 .exhausted [(1, .ptr 4 0), (2, .ptr 8 0), (5, n' 1), (11, .fn (.func 179) [] [.ptr 16 0, .ptr 15 0])] 17), (19, .box [.yld 18] 109), (20, .box [.fn (.func 180) [] [.ptr 16 0, .ptr 19 0, .ptr 15 0, .ptr 20 0]] 109)]
noncomputable def srBT2 (C : List (List Int)) (a b : List Int) (o : List (List Int)) : List (Nat × Blk) :=
 [(0, vbBox C), (1, .box [eInts a] 30), (2, .box [eInts b] 30), (3, .box [.sl o.length (o.map eInts) (.own 5 o.length 1)] 38), (4, vbBox C), (5, .row o.length), (6, .defd), (7, lpB Tryz.f33 .ready [(4, .ptr 1 0), (5, .ptr 2 0), (8, .ptr 3 0), (26, .fn (.func 140) [] [.ptr 4 0])] 6), (8, .box [.yld 7] 109), (9, .box [n' 3] 3), (10, .box [n' 0] 3), (11, .defd), (12, lpB Tryz.f140 .exhausted [(1, .ptr 4 0), (2, .ptr 8 0), (5, n' 0), (11, .fn (.func 179) [] [.ptr 10 0, .ptr 9 0])] 11), (13, .box [.yld 12] 109), (14, .box [.fn (.func 180) [] [.ptr 10 0, .ptr 13 0, .ptr 9 0, .ptr 14 0]] 109), (15, .box [n' 3] 3), (16, .box [n' 1] 3), (17, .defd), (18, lpB Tryz.f140 .exhausted [(1, .ptr 4 0), (2, .ptr 8 0), (5, n' 1), (11, .fn (.func 179) [] [.ptr 16 0, .ptr 15 0])] 17), (19, .box [.yld 18] 109), (20, .box [.fn (.func 180) [] [.ptr 16 0, .ptr 19 0, .ptr 15 0, .ptr 20 0]] 109), (21, .box [n' 3] 3), (22, .box [n' 2] 3), (23, .defd), (24, lpB Tryz.f140 .exhausted [(1, .ptr 4 0), (2, .ptr 8 0), (5, n' 2), (11, .fn (.func 179) [] [.ptr 22 0, .ptr 21 0])] 23), (25, .box [.yld 24] 109), (26, .box [.fn (.func 180) [] [.ptr 22 0, .ptr 25 0, .ptr 21 0, .ptr 26 0]] 109)]
noncomputable def srBT3 (C : List (List Int)) (a b : List Int) (o : List (List Int)) : List (Nat × Blk) :=
 [(0, vbBox C), (1, .box [eInts a] 30), (2, .box [eInts b] 30), (3, .box [.sl o.length (o.map eInts) (.own 5 o.length 1)] 38), (4, vbBox C), (5, .row o.length), (6, .defd), (7, lpB Tryz.f33 .ready [(4, .ptr 1 0), (5, .ptr 2 0), (8, .ptr 3 0), (26, .fn (.func 140) [] [.ptr 4 0])] 6), (8, .box [.yld 7] 109), (9, .box [n' 3] 3), (10, .box [n' 0] 3), (11, .defd), (12, lpB Tryz.f140 .exhausted [(1, .ptr 4 0), (2, .ptr 8 0), (5, n' 0), (11, .fn (.func 179) [] [.ptr 10 0, .ptr 9 0])] 11), (13, .box [.yld 12] 109), (14, .box [.fn (.func 180) [] [.ptr 10 0, .ptr 13 0, .ptr 9 0, .ptr 14 0]] 109), (15, .box [n' 3] 3), (16, .box [n' 1] 3), (17, .defd), (18, lpB Tryz.f140 .exhausted [(1, .ptr 4 0), (2, .ptr 8 0), (5, n' 1), (11, .fn (.func 179) [] [.ptr 16 0, .ptr 15 0])] 17), (19, .box [.yld 18] 109), (20, .box [.fn (.func 180) [] [.ptr 16 0, .ptr 19 0, .ptr 15 0, .ptr 20 0]] 109), (21, .box [n' 3] 3), (22, .box [n' 2] 3), (23, .defd), (24, lpB Tryz.f140 .exhausted [(1, .ptr 4 0), (2, .ptr 8 0), (5, n' 2), (11, .fn (.func 179) [] [.ptr 22 0, .ptr 21 0])] 23), (25, .box [.yld 24] 109), (26, .box [.fn (.func 180) [] [.ptr 22 0, .ptr 25 0, .ptr 21 0, .ptr 26 0]] 109), (27, .box [n' 3] 3), (28, .box [n' 3] 3), (29, .defd), (30, lpB Tryz.f140 .exhausted [(1, .ptr 4 0), (2, .ptr 8 0), (5, n' 3), (11, .fn (.func 179) [] [.ptr 28 0, .ptr 27 0])] 29), (31, .box [.yld 30] 109), (32, .box [.fn (.func 180) [] [.ptr 28 0, .ptr 31 0, .ptr 27 0, .ptr 32 0]] 109)]
noncomputable def srBT4 (C : List (List Int)) (a b : List Int) (o : List (List Int)) : List (Nat × Blk) :=
 [(0, vbBox C), (1, .box [eInts a] 30), (2, .box [eInts b] 30), (3, .box [.sl o.length (o.map eInts) (.own 5 o.length 1)] 38), (4, vbBox C), (5, .row o.length), (6, .defd), (7, lpB Tryz.f33 .ready [(4, .ptr 1 0), (5, .ptr 2 0), (8, .ptr 3 0), (26, .fn (.func 140) [] [.ptr 4 0])] 6), (8, .box [.yld 7] 109), (9, .box [n' 3] 3), (10, .box [n' 0] 3), (11, .defd), (12, lpB Tryz.f140 .exhausted [(1, .ptr 4 0), (2, .ptr 8 0), (5, n' 0), (11, .fn (.func 179) [] [.ptr 10 0, .ptr 9 0])] 11), (13, .box [.yld 12] 109), (14, .box [.fn (.func 180) [] [.ptr 10 0, .ptr 13 0, .ptr 9 0, .ptr 14 0]] 109), (15, .box [n' 3] 3), (16, .box [n' 1] 3), (17, .defd), (18, lpB Tryz.f140 .exhausted [(1, .ptr 4 0), (2, .ptr 8 0), (5, n' 1), (11, .fn (.func 179) [] [.ptr 16 0, .ptr 15 0])] 17), (19, .box [.yld 18] 109), (20, .box [.fn (.func 180) [] [.ptr 16 0, .ptr 19 0, .ptr 15 0, .ptr 20 0]] 109), (21, .box [n' 3] 3), (22, .box [n' 2] 3), (23, .defd), (24, lpB Tryz.f140 .exhausted [(1, .ptr 4 0), (2, .ptr 8 0), (5, n' 2), (11, .fn (.func 179) [] [.ptr 22 0, .ptr 21 0])] 23), (25, .box [.yld 24] 109), (26, .box [.fn (.func 180) [] [.ptr 22 0, .ptr 25 0, .ptr 21 0, .ptr 26 0]] 109), (27, .box [n' 3] 3), (28, .box [n' 3] 3), (29, .defd), (30, lpB Tryz.f140 .exhausted [(1, .ptr 4 0), (2, .ptr 8 0), (5, n' 3), (11, .fn (.func 179) [] [.ptr 28 0, .ptr 27 0])] 29), (31, .box [.yld 30] 109), (32, .box [.fn (.func 180) [] [.ptr 28 0, .ptr 31 0, .ptr 27 0, .ptr 32 0]] 109), (33, .box [n' 3] 3), (34, .box [n' 4] 3), (35, .defd), (36, lpB Tryz.f140 .exhausted [(1, .ptr 4 0), (2, .ptr 8 0), (5, n' 4), (11, .fn (.func 179) [] [.ptr 34 0, .ptr 33 0])] 35), (37, .box [.yld 36] 109), (38, .box [.fn (.func 180) [] [.ptr 34 0, .ptr 37 0, .ptr 33 0, .ptr 38 0]] 109)]
set_option maxHeartbeats 16000000 in
set_option maxRecDepth 100000 in
theorem c_Between {C : List (List Int)} (hC : VbOk C) {a b : List Int} (ha : LineOk a) (hb : LineOk b) (H : List Blk) : ACall Tryz.prog 33 [eVB C, eInts a, eInts b] H (.ret (.tup [eLists ((linesW 3).filter (btP a b)), n' 0])) H := by
 refine fn_ruleM (m := false) (fn := Tryz.f33) (c := (Tryz.f33.body).getD .skip) mixed (by kernel_rfl) (by kernel_rfl) (of_decide_eq_true (by kernel_rfl)) ?_ ?_ ?_ H
 ·exact ⟨under_vbC 0 C, under_eInts _ _, under_eInts _ _, trivial⟩
 ·exact ⟨under_eLists _ _, trivial, trivial⟩
 ·refine CallG.pure _ (c_vBook hC) ?_
  refine CallG.pure _ (c_isLine C ha) ?_
  refine CallG.pure _ (c_isLine C hb) ?_
  refine ifN ?_
  refine CallG.inlineP (m := false) (fn := Tryz.f84) (c := (Tryz.f84.body).getD .skip) mixed (by kernel_rfl) (by kernel_rfl) (of_decide_eq_true (by kernel_rfl)) ?_
  refine .inl ⟨.inl rfl, _, rfl, rfl, ?_⟩
  refine RangeG.ghost ?_
  refine RangeG.box (n := 6) 3 [.sl 0 [] (.own 5 0 1)] 0 (Nat.zero_le _) (Nat.zero_le _) rfl (.cons (Weak.own (r := 5) (g := 0) 1 rfl) (.nil _)) ?_
  refine RangeG.fresh (n0 := 6) [(4, .ptr 1 0), (5, .ptr 2 0), (8, .ptr 3 0), (26, .fn (.func 140) [] [.ptr 4 0])] ((srBL0 C a b []).take 6) rfl ?_ ?_ ?_
  ·exact ⟨⟨_, rfl, Weak.refl _ _⟩, ⟨_, rfl, Weak.refl _ _⟩, ⟨_, rfl, Weak.refl _ _⟩, ⟨_, rfl, Weak.refl _ _⟩, trivial⟩
  ·exact ⟨bk rfl rfl, bk rfl rfl, bk rfl rfl, bk rfl rfl, bk rfl rfl, bk rfl rfl, trivial⟩
  refine RangeG.after ?_
  refine RangeG.outer (f := 140) (first := []) (captured := [.ptr 4 0]) rfl rfl rfl ?_
  refine CallG.inlineM (m := false) (fn := Tryz.f140) (c := (Tryz.f140.body).getD .skip) mixed (by kernel_rfl) (by kernel_rfl) (of_decide_eq_true (by kernel_rfl)) ?_
  refine LoopG.round (m := false) mixed ?_
  refine If.mk (fun _ => ?_) (fun h => absurd (by decide) h)
  refine ifY ?_
  refine CallG.inlineP (m := false) (fn := Tryz.f141) (c := (Tryz.f141.body).getD .skip) mixed (by kernel_rfl) (by kernel_rfl) (of_decide_eq_true (by kernel_rfl)) ?_
  refine .inl ⟨.inl rfl, _, rfl, rfl, ?_⟩
  refine RangeG.fresh (n0 := 11) [(1, .ptr 4 0), (2, .ptr 8 0), (5, n' 0), (11, .fn (.func 179) [] [.ptr 10 0, .ptr 9 0])] ((srBL0 C a b ((linesU 0).filter (btP a b))).take 11) rfl ?_ ?_ ?_
  ·exact ⟨⟨_, rfl, Weak.refl _ _⟩, ⟨_, rfl, Weak.refl _ _⟩, ⟨_, rfl, Weak.refl _ _⟩, ⟨_, rfl, Weak.refl _ _⟩, trivial⟩
  ·exact ⟨bk rfl rfl, bk rfl rfl, bk rfl rfl, bk rfl rfl, bk rfl rfl, bk rfl rfl, bk rfl rfl, bk rfl rfl, bk rfl rfl, bk rfl rfl, bk rfl rfl, trivial⟩
  refine RangeG.after ?_
  refine RangeG.outer (f := 179) (first := []) (captured := [.ptr 10 0, .ptr 9 0]) rfl rfl rfl ?_
  refine CallG.inlineM (m := false) (fn := Tryz.f179) (c := (Tryz.f179.body).getD .skip) mixed (by kernel_rfl) (by kernel_rfl) (of_decide_eq_true (by kernel_rfl)) ?_
  refine CallG.pre (eInts [] :: [.ptr 10 0, .ptr 13 0, .ptr 9 0, .ptr 14 0]) (srBL0 C a b ((linesU 0).filter (btP a b))) (srBL0 C a b ((linesU 1).filter (btP a b))) (nb true) 1 (.cons (fun H => wk_nil H) (.cons (fun H => WeakH.refl _ H) (.cons (fun H => WeakH.refl _ H) (.cons (fun H => WeakH.refl _ H) (.cons (fun H => WeakH.refl _ H) .nil)))))
   (srBL0_numd C a b _) (srBL0_numd C a b _) rfl (srBL0_marks C a b _ _) ⟨bk rfl rfl, bk rfl rfl, bk rfl rfl, bk rfl rfl, bk rfl rfl, bk rfl rfl, bk rfl rfl, bk rfl rfl, bk rfl rfl, bk rfl rfl, bk rfl rfl, bk rfl rfl, bk rfl rfl, bk rfl rfl, bk rfl rfl, trivial⟩ rfl ⟨under_eInts _ _, ltb rfl, ltb rfl, ltb rfl, ltb rfl, trivial⟩ rfl (srBL0_under C a b _) (srBL0_under C a b _) ?_ ?_
  ·rw [linesU_succ 0, List.filter_append]
   exact c_srB00 C a b ha hb rfl ⟨by decide, fun x h => by cases h⟩ (ho := linesF_small (btP a b) (by omega))
  refine ⟨.inr rfl, rfl, _, rfl, ?_⟩
  refine ⟨_, _, rfl, (fun e => by cases e), rfl, rfl, [(1, .ptr 4 0), (2, .ptr 8 0), (5, n' 0)], srBT0 C a b ((linesU 1).filter (btP a b)), 15, rfl, ⟨⟨_, rfl, Weak.refl _ _⟩, ⟨_, rfl, Weak.refl _ _⟩, ⟨_, rfl, Weak.refl _ _⟩, trivial⟩, ⟨bk rfl rfl, bk rfl rfl, bk rfl rfl, bk rfl rfl, bk rfl rfl, bk rfl rfl, bk rfl rfl, bk rfl rfl, bk rfl rfl, bk rfl rfl, bk rfl rfl, bk rfl rfl, bk rfl rfl, bk rfl rfl, bk rfl rfl, trivial⟩, ?_⟩
  refine Side.mk (by unfold fitsK; kernel_rfl) ?_
  refine LoopG.round (m := false) mixed ?_
  refine If.mk (fun _ => ?_) (fun h => absurd (by decide) h)
  refine ifY ?_
  refine CallG.inlineP (m := false) (fn := Tryz.f141) (c := (Tryz.f141.body).getD .skip) mixed (by kernel_rfl) (by kernel_rfl) (of_decide_eq_true (by kernel_rfl)) ?_
  refine .inl ⟨.inl rfl, _, rfl, rfl, ?_⟩
  refine RangeG.fresh (n0 := 17) [(1, .ptr 4 0), (2, .ptr 8 0), (5, n' 1), (11, .fn (.func 179) [] [.ptr 16 0, .ptr 15 0])] ((srBL1 C a b ((linesU 1).filter (btP a b))).take 17) rfl ?_ ?_ ?_
  ·exact ⟨⟨_, rfl, Weak.refl _ _⟩, ⟨_, rfl, Weak.refl _ _⟩, ⟨_, rfl, Weak.refl _ _⟩, ⟨_, rfl, Weak.refl _ _⟩, trivial⟩
  ·exact ⟨bk rfl rfl, bk rfl rfl, bk rfl rfl, bk rfl rfl, bk rfl rfl, bk rfl rfl, bk rfl rfl, bk rfl rfl, bk rfl rfl, bk rfl rfl, bk rfl rfl, bk rfl rfl, bk rfl rfl, bk rfl rfl, bk rfl rfl, bk rfl rfl, bk rfl rfl, trivial⟩
  refine RangeG.after ?_
  refine RangeG.outer (f := 179) (first := []) (captured := [.ptr 16 0, .ptr 15 0]) rfl rfl rfl ?_
  refine CallG.inlineM (m := false) (fn := Tryz.f179) (c := (Tryz.f179.body).getD .skip) mixed (by kernel_rfl) (by kernel_rfl) (of_decide_eq_true (by kernel_rfl)) ?_
  refine CallG.pre (eInts [] :: [.ptr 16 0, .ptr 19 0, .ptr 15 0, .ptr 20 0]) (srBL1 C a b ((linesU 1).filter (btP a b))) (srBL1 C a b ((linesU 2).filter (btP a b))) (nb true) 1 (.cons (fun H => wk_nil H) (.cons (fun H => WeakH.refl _ H) (.cons (fun H => WeakH.refl _ H) (.cons (fun H => WeakH.refl _ H) (.cons (fun H => WeakH.refl _ H) .nil)))))
   (srBL1_numd C a b _) (srBL1_numd C a b _) rfl (srBL1_marks C a b _ _) ⟨bk rfl rfl, bk rfl rfl, bk rfl rfl, bk rfl rfl, bk rfl rfl, bk rfl rfl, bk rfl rfl, bk rfl rfl, bk rfl rfl, bk rfl rfl, bk rfl rfl, bk rfl rfl, bk rfl rfl, bk rfl rfl, bk rfl rfl, bk rfl rfl, bk rfl rfl, bk rfl rfl, bk rfl rfl, bk rfl rfl, bk rfl rfl, trivial⟩ rfl ⟨under_eInts _ _, ltb rfl, ltb rfl, ltb rfl, ltb rfl, trivial⟩ rfl (srBL1_under C a b _) (srBL1_under C a b _) ?_ ?_
  ·rw [linesU_succ 1, List.filter_append]
   exact c_srB1 C a b ha hb 1 (now := []) rfl (fun x h => by cases h) (linesF_small2 (btP a b) (by omega))
  refine ⟨.inr rfl, rfl, _, rfl, ?_⟩
  refine ⟨_, _, rfl, (fun e => by cases e), rfl, rfl, [(1, .ptr 4 0), (2, .ptr 8 0), (5, n' 1)], srBT1 C a b ((linesU 2).filter (btP a b)), 21, rfl, ⟨⟨_, rfl, Weak.refl _ _⟩, ⟨_, rfl, Weak.refl _ _⟩, ⟨_, rfl, Weak.refl _ _⟩, trivial⟩, ⟨bk rfl rfl, bk rfl rfl, bk rfl rfl, bk rfl rfl, bk rfl rfl, bk rfl rfl, bk rfl rfl, bk rfl rfl, bk rfl rfl, bk rfl rfl, bk rfl rfl, bk rfl rfl, bk rfl rfl, bk rfl rfl, bk rfl rfl, bk rfl rfl, bk rfl rfl, bk rfl rfl, bk rfl rfl, bk rfl rfl, bk rfl rfl, trivial⟩, ?_⟩
  refine Side.mk (by unfold fitsK; kernel_rfl) ?_
  refine LoopG.round (m := false) mixed ?_
  refine If.mk (fun _ => ?_) (fun h => absurd (by decide) h)
  refine ifY ?_
  refine CallG.inlineP (m := false) (fn := Tryz.f141) (c := (Tryz.f141.body).getD .skip) mixed (by kernel_rfl) (by kernel_rfl) (of_decide_eq_true (by kernel_rfl)) ?_
  refine .inl ⟨.inl rfl, _, rfl, rfl, ?_⟩
  refine RangeG.fresh (n0 := 23) [(1, .ptr 4 0), (2, .ptr 8 0), (5, n' 2), (11, .fn (.func 179) [] [.ptr 22 0, .ptr 21 0])] ((srBL2 C a b ((linesU 2).filter (btP a b))).take 23) rfl ?_ ?_ ?_
  ·exact ⟨⟨_, rfl, Weak.refl _ _⟩, ⟨_, rfl, Weak.refl _ _⟩, ⟨_, rfl, Weak.refl _ _⟩, ⟨_, rfl, Weak.refl _ _⟩, trivial⟩
  ·exact ⟨bk rfl rfl, bk rfl rfl, bk rfl rfl, bk rfl rfl, bk rfl rfl, bk rfl rfl, bk rfl rfl, bk rfl rfl, bk rfl rfl, bk rfl rfl, bk rfl rfl, bk rfl rfl, bk rfl rfl, bk rfl rfl, bk rfl rfl, bk rfl rfl, bk rfl rfl, bk rfl rfl, bk rfl rfl, bk rfl rfl, bk rfl rfl, bk rfl rfl, bk rfl rfl, trivial⟩
  refine RangeG.after ?_
  refine RangeG.outer (f := 179) (first := []) (captured := [.ptr 22 0, .ptr 21 0]) rfl rfl rfl ?_
  refine CallG.inlineM (m := false) (fn := Tryz.f179) (c := (Tryz.f179.body).getD .skip) mixed (by kernel_rfl) (by kernel_rfl) (of_decide_eq_true (by kernel_rfl)) ?_
  refine CallG.pre (eInts [] :: [.ptr 22 0, .ptr 25 0, .ptr 21 0, .ptr 26 0]) (srBL2 C a b ((linesU 2).filter (btP a b))) (srBL2 C a b ((linesU 3).filter (btP a b))) (nb true) 1 (.cons (fun H => wk_nil H) (.cons (fun H => WeakH.refl _ H) (.cons (fun H => WeakH.refl _ H) (.cons (fun H => WeakH.refl _ H) (.cons (fun H => WeakH.refl _ H) .nil)))))
   (srBL2_numd C a b _) (srBL2_numd C a b _) rfl (srBL2_marks C a b _ _) ⟨bk rfl rfl, bk rfl rfl, bk rfl rfl, bk rfl rfl, bk rfl rfl, bk rfl rfl, bk rfl rfl, bk rfl rfl, bk rfl rfl, bk rfl rfl, bk rfl rfl, bk rfl rfl, bk rfl rfl, bk rfl rfl, bk rfl rfl, bk rfl rfl, bk rfl rfl, bk rfl rfl, bk rfl rfl, bk rfl rfl, bk rfl rfl, bk rfl rfl, bk rfl rfl, bk rfl rfl, bk rfl rfl, bk rfl rfl, bk rfl rfl, trivial⟩ rfl ⟨under_eInts _ _, ltb rfl, ltb rfl, ltb rfl, ltb rfl, trivial⟩ rfl (srBL2_under C a b _) (srBL2_under C a b _) ?_ ?_
  ·rw [linesU_succ 2, List.filter_append]
   exact c_srB2 C a b ha hb 2 (now := []) rfl (fun x h => by cases h) (linesF_small2 (btP a b) (by omega))
  refine ⟨.inr rfl, rfl, _, rfl, ?_⟩
  refine ⟨_, _, rfl, (fun e => by cases e), rfl, rfl, [(1, .ptr 4 0), (2, .ptr 8 0), (5, n' 2)], srBT2 C a b ((linesU 3).filter (btP a b)), 27, rfl, ⟨⟨_, rfl, Weak.refl _ _⟩, ⟨_, rfl, Weak.refl _ _⟩, ⟨_, rfl, Weak.refl _ _⟩, trivial⟩, ⟨bk rfl rfl, bk rfl rfl, bk rfl rfl, bk rfl rfl, bk rfl rfl, bk rfl rfl, bk rfl rfl, bk rfl rfl, bk rfl rfl, bk rfl rfl, bk rfl rfl, bk rfl rfl, bk rfl rfl, bk rfl rfl, bk rfl rfl, bk rfl rfl, bk rfl rfl, bk rfl rfl, bk rfl rfl, bk rfl rfl, bk rfl rfl, bk rfl rfl, bk rfl rfl, bk rfl rfl, bk rfl rfl, bk rfl rfl, bk rfl rfl, trivial⟩, ?_⟩
  refine Side.mk (by unfold fitsK; kernel_rfl) ?_
  refine LoopG.round (m := false) mixed ?_
  refine If.mk (fun _ => ?_) (fun h => absurd (by decide) h)
  refine ifY ?_
  refine CallG.inlineP (m := false) (fn := Tryz.f141) (c := (Tryz.f141.body).getD .skip) mixed (by kernel_rfl) (by kernel_rfl) (of_decide_eq_true (by kernel_rfl)) ?_
  refine .inl ⟨.inl rfl, _, rfl, rfl, ?_⟩
  refine RangeG.fresh (n0 := 29) [(1, .ptr 4 0), (2, .ptr 8 0), (5, n' 3), (11, .fn (.func 179) [] [.ptr 28 0, .ptr 27 0])] ((srBL3 C a b ((linesU 3).filter (btP a b))).take 29) rfl ?_ ?_ ?_
  ·exact ⟨⟨_, rfl, Weak.refl _ _⟩, ⟨_, rfl, Weak.refl _ _⟩, ⟨_, rfl, Weak.refl _ _⟩, ⟨_, rfl, Weak.refl _ _⟩, trivial⟩
  ·exact ⟨bk rfl rfl, bk rfl rfl, bk rfl rfl, bk rfl rfl, bk rfl rfl, bk rfl rfl, bk rfl rfl, bk rfl rfl, bk rfl rfl, bk rfl rfl, bk rfl rfl, bk rfl rfl, bk rfl rfl, bk rfl rfl, bk rfl rfl, bk rfl rfl, bk rfl rfl, bk rfl rfl, bk rfl rfl, bk rfl rfl, bk rfl rfl, bk rfl rfl, bk rfl rfl, bk rfl rfl, bk rfl rfl, bk rfl rfl, bk rfl rfl, bk rfl rfl, bk rfl rfl, trivial⟩
  refine RangeG.after ?_
  refine RangeG.outer (f := 179) (first := []) (captured := [.ptr 28 0, .ptr 27 0]) rfl rfl rfl ?_
  refine CallG.inlineM (m := false) (fn := Tryz.f179) (c := (Tryz.f179.body).getD .skip) mixed (by kernel_rfl) (by kernel_rfl) (of_decide_eq_true (by kernel_rfl)) ?_
  refine CallG.pre (eInts [] :: [.ptr 28 0, .ptr 31 0, .ptr 27 0, .ptr 32 0]) (srBL3 C a b ((linesU 3).filter (btP a b))) (srBL3 C a b ((linesU 4).filter (btP a b))) (nb true) 1 (.cons (fun H => wk_nil H) (.cons (fun H => WeakH.refl _ H) (.cons (fun H => WeakH.refl _ H) (.cons (fun H => WeakH.refl _ H) (.cons (fun H => WeakH.refl _ H) .nil)))))
   (srBL3_numd C a b _) (srBL3_numd C a b _) rfl (srBL3_marks C a b _ _) ⟨bk rfl rfl, bk rfl rfl, bk rfl rfl, bk rfl rfl, bk rfl rfl, bk rfl rfl, bk rfl rfl, bk rfl rfl, bk rfl rfl, bk rfl rfl, bk rfl rfl, bk rfl rfl, bk rfl rfl, bk rfl rfl, bk rfl rfl, bk rfl rfl, bk rfl rfl, bk rfl rfl, bk rfl rfl, bk rfl rfl, bk rfl rfl, bk rfl rfl, bk rfl rfl, bk rfl rfl, bk rfl rfl, bk rfl rfl, bk rfl rfl, bk rfl rfl, bk rfl rfl, bk rfl rfl, bk rfl rfl, bk rfl rfl, bk rfl rfl, trivial⟩ rfl ⟨under_eInts _ _, ltb rfl, ltb rfl, ltb rfl, ltb rfl, trivial⟩ rfl (srBL3_under C a b _) (srBL3_under C a b _) ?_ ?_
  ·rw [linesU_succ 3, List.filter_append]
   exact c_srB3 C a b ha hb 3 (now := []) rfl (fun x h => by cases h) (linesF_small2 (btP a b) (by omega))
  refine ⟨.inr rfl, rfl, _, rfl, ?_⟩
  refine ⟨_, _, rfl, (fun e => by cases e), rfl, rfl, [(1, .ptr 4 0), (2, .ptr 8 0), (5, n' 3)], srBT3 C a b ((linesU 4).filter (btP a b)), 33, rfl, ⟨⟨_, rfl, Weak.refl _ _⟩, ⟨_, rfl, Weak.refl _ _⟩, ⟨_, rfl, Weak.refl _ _⟩, trivial⟩, ⟨bk rfl rfl, bk rfl rfl, bk rfl rfl, bk rfl rfl, bk rfl rfl, bk rfl rfl, bk rfl rfl, bk rfl rfl, bk rfl rfl, bk rfl rfl, bk rfl rfl, bk rfl rfl, bk rfl rfl, bk rfl rfl, bk rfl rfl, bk rfl rfl, bk rfl rfl, bk rfl rfl, bk rfl rfl, bk rfl rfl, bk rfl rfl, bk rfl rfl, bk rfl rfl, bk rfl rfl, bk rfl rfl, bk rfl rfl, bk rfl rfl, bk rfl rfl, bk rfl rfl, bk rfl rfl, bk rfl rfl, bk rfl rfl, bk rfl rfl, trivial⟩, ?_⟩
  refine Side.mk (by unfold fitsK; kernel_rfl) ?_
  refine LoopG.round (m := false) mixed ?_
  refine If.mk (fun _ => ?_) (fun h => absurd (by decide) h)
  refine ifY ?_
  refine CallG.inlineP (m := false) (fn := Tryz.f141) (c := (Tryz.f141.body).getD .skip) mixed (by kernel_rfl) (by kernel_rfl) (of_decide_eq_true (by kernel_rfl)) ?_
  refine .inl ⟨.inl rfl, _, rfl, rfl, ?_⟩
  refine RangeG.fresh (n0 := 35) [(1, .ptr 4 0), (2, .ptr 8 0), (5, n' 4), (11, .fn (.func 179) [] [.ptr 34 0, .ptr 33 0])] ((srBL4 C a b ((linesU 4).filter (btP a b))).take 35) rfl ?_ ?_ ?_
  ·exact ⟨⟨_, rfl, Weak.refl _ _⟩, ⟨_, rfl, Weak.refl _ _⟩, ⟨_, rfl, Weak.refl _ _⟩, ⟨_, rfl, Weak.refl _ _⟩, trivial⟩
  ·exact ⟨bk rfl rfl, bk rfl rfl, bk rfl rfl, bk rfl rfl, bk rfl rfl, bk rfl rfl, bk rfl rfl, bk rfl rfl, bk rfl rfl, bk rfl rfl, bk rfl rfl, bk rfl rfl, bk rfl rfl, bk rfl rfl, bk rfl rfl, bk rfl rfl, bk rfl rfl, bk rfl rfl, bk rfl rfl, bk rfl rfl, bk rfl rfl, bk rfl rfl, bk rfl rfl, bk rfl rfl, bk rfl rfl, bk rfl rfl, bk rfl rfl, bk rfl rfl, bk rfl rfl, bk rfl rfl, bk rfl rfl, bk rfl rfl, bk rfl rfl, bk rfl rfl, bk rfl rfl, trivial⟩
  refine RangeG.after ?_
  refine RangeG.outer (f := 179) (first := []) (captured := [.ptr 34 0, .ptr 33 0]) rfl rfl rfl ?_
  refine CallG.inlineM (m := false) (fn := Tryz.f179) (c := (Tryz.f179.body).getD .skip) mixed (by kernel_rfl) (by kernel_rfl) (of_decide_eq_true (by kernel_rfl)) ?_
  refine CallG.pre (eInts [] :: [.ptr 34 0, .ptr 37 0, .ptr 33 0, .ptr 38 0]) (srBL4 C a b ((linesU 4).filter (btP a b))) (srBL4 C a b ((linesU 5).filter (btP a b))) (nb true) 1 (.cons (fun H => wk_nil H) (.cons (fun H => WeakH.refl _ H) (.cons (fun H => WeakH.refl _ H) (.cons (fun H => WeakH.refl _ H) (.cons (fun H => WeakH.refl _ H) .nil)))))
   (srBL4_numd C a b _) (srBL4_numd C a b _) rfl (srBL4_marks C a b _ _) ⟨bk rfl rfl, bk rfl rfl, bk rfl rfl, bk rfl rfl, bk rfl rfl, bk rfl rfl, bk rfl rfl, bk rfl rfl, bk rfl rfl, bk rfl rfl, bk rfl rfl, bk rfl rfl, bk rfl rfl, bk rfl rfl, bk rfl rfl, bk rfl rfl, bk rfl rfl, bk rfl rfl, bk rfl rfl, bk rfl rfl, bk rfl rfl, bk rfl rfl, bk rfl rfl, bk rfl rfl, bk rfl rfl, bk rfl rfl, bk rfl rfl, bk rfl rfl, bk rfl rfl, bk rfl rfl, bk rfl rfl, bk rfl rfl, bk rfl rfl, bk rfl rfl, bk rfl rfl, bk rfl rfl, bk rfl rfl, bk rfl rfl, bk rfl rfl, trivial⟩ rfl ⟨under_eInts _ _, ltb rfl, ltb rfl, ltb rfl, ltb rfl, trivial⟩ rfl (srBL4_under C a b _) (srBL4_under C a b _) ?_ ?_
  ·rw [linesU_succ 4, List.filter_append]
   exact c_srB4 C a b ha hb 4 (now := []) rfl (fun x h => by cases h) (linesF_small2 (btP a b) (by omega))
  refine ⟨.inr rfl, rfl, _, rfl, ?_⟩
  refine ⟨_, _, rfl, (fun e => by cases e), rfl, rfl, [(1, .ptr 4 0), (2, .ptr 8 0), (5, n' 4)], srBT4 C a b ((linesU 5).filter (btP a b)), 39, rfl, ⟨⟨_, rfl, Weak.refl _ _⟩, ⟨_, rfl, Weak.refl _ _⟩, ⟨_, rfl, Weak.refl _ _⟩, trivial⟩, ⟨bk rfl rfl, bk rfl rfl, bk rfl rfl, bk rfl rfl, bk rfl rfl, bk rfl rfl, bk rfl rfl, bk rfl rfl, bk rfl rfl, bk rfl rfl, bk rfl rfl, bk rfl rfl, bk rfl rfl, bk rfl rfl, bk rfl rfl, bk rfl rfl, bk rfl rfl, bk rfl rfl, bk rfl rfl, bk rfl rfl, bk rfl rfl, bk rfl rfl, bk rfl rfl, bk rfl rfl, bk rfl rfl, bk rfl rfl, bk rfl rfl, bk rfl rfl, bk rfl rfl, bk rfl rfl, bk rfl rfl, bk rfl rfl, bk rfl rfl, bk rfl rfl, bk rfl rfl, bk rfl rfl, bk rfl rfl, bk rfl rfl, bk rfl rfl, trivial⟩, ?_⟩
  refine Side.mk (by unfold fitsK; kernel_rfl) ?_
  refine LoopG.round (m := false) mixed ?_
  refine If.mk (fun h => absurd h (by decide)) (fun _ => ?_)
  refine ifN ?_
  refine ⟨.inr rfl, rfl, _, rfl, ?_⟩
  refine ⟨_, _, rfl, (fun e => by cases e), rfl, rfl, [(8, .ptr 3 0)], (srBT4 C a b ((linesU 5).filter (btP a b))).take 6, 39, rfl, ⟨⟨_, rfl, Weak.refl _ _⟩, trivial⟩, ⟨bk rfl rfl, bk rfl rfl, bk rfl rfl, bk rfl rfl, bk rfl rfl, bk rfl rfl, trivial⟩, ?_⟩
  refine ⟨.inl rfl, FinM.mk _ rfl rfl ?_⟩
  rw [linesU_full]
  show AV.tup [AV.freeze _ (.sl ((linesW 3).filter (btP a b)).length (((linesW 3).filter (btP a b)).map eInts) (.own 5 _ 1)), n' 0] = _
  rw [freeze_lists]
end Go.Vm

namespace Go.Vm
open Go.Proofs
def Booked (b : Book) : Prop := Short b ∧ b.tunes ≤ 3 ∧ BOk b
instance (b : Book) : Decidable (Booked b) := by unfold Booked; infer_instance
set_option maxRecDepth 100000 in
theorem c_booked (b : Book) (H : List Blk) : ACall Tryz.prog 23 [eBook b] H (.ret (.lit (.bool (decide (Booked b))))) H := by
 refine fn_rule (m := false) (fn := Tryz.f23) (c := (Tryz.f23.body).getD .skip) mixed (by kernel_rfl) (by kernel_rfl) (of_decide_eq_true (by kernel_rfl)) ?_ ?_ ?_ H
 ·exact ⟨under_eBook 0 _, trivial⟩
 ·trivial
 ·refine LoopG.at (n0 := 1) rfl (loop_up mixed (m := false) (fun r => [(1, .ptr 0 0), (3, n' r)]) (fun _ => [(0, bBox b)]) (fun r => ∀ x ∈ b.vs.take r, ShortV x) 6 0 (Nat.zero_le _) (fun _ h => by simp at h) ?_ ?_ ?_)
  ·exact ⟨wp rfl (ltb rfl), wp rfl trivial, trivial⟩
  ·exact ⟨bk rfl rfl, trivial⟩
  ·intro r hr hI
   have fin : ∀ {x : Prop} (a : (b.vs.length : Int) ≤ 6) (c : b.vs.length ≤ r), Short b := fun a c => ⟨all_end c hI, a⟩
   refine If.mk (fun h1 => ?_) (fun h1 => ?_)
   ·refine If.mk (fun h2 => ?_) (fun h2 => ?_)
    ·refine ifY ?_
     have hr' : r < b.vs.length := by omega
     refine Ex.mk _ (ix_versions (r := r) rfl (by omega)) ?_
     refine Ex.mk _ rfl ?_
     refine LoopG.at (n0 := 2) rfl (loop_up mixed (m := false) (fun q => [(1, .ptr 0 0), (3, n' r), (4, .ptr 1 0), (5, n' q)]) (fun _ => [(0, bBox b), (1, vBox b.vs[r])]) (fun q => ∀ s ∈ b.vs[r].take q, (s.length : Int) ≤ 6) 6 1 (leb rfl) (fun _ h => by simp at h) ?_ ?_ ?_)
     ·exact ⟨wp rfl (ltb rfl), wp rfl trivial, wp rfl (ltb rfl), wp rfl trivial, trivial⟩
     ·exact ⟨bk rfl rfl, bk rfl rfl, trivial⟩
     ·intro q hq hJ
      refine If.mk (fun h3 => ?_) (fun h3 => ?_)
      ·refine If.mk (fun h4 => ?_) (fun h4 => ?_)
       ·refine ifY ?_
        have hq' : q < b.vs[r].length := by omega
        refine Ex.mk _ (ix_states (r := q) rfl (by omega)) ?_
        refine Ex.mk _ rfl ?_
        refine If.mk (fun h5 => ?_) (fun h5 => ?_)
        ·refine ifY ?_
         exact ⟨leb rfl, Nat.zero_le _, .inl rfl, FinG.no rfl rfl (fun x => by have := (x.1.1 _ (List.getElem_mem hr')).1 _ (List.getElem_mem hq'); omega)⟩
        ·refine ifN ?_
         refine Side.mk (fits64 (by omega)) ?_
         exact ⟨leb rfl, rfl, by omega, all_snoc (p := fun s : List Move => (s.length : Int) ≤ 6) (by omega) hJ (by omega), ⟨wp rfl (ltb rfl), wp rfl trivial, wp rfl (ltb rfl), wp rfl trivial, trivial⟩, ⟨bk rfl rfl, bk rfl rfl, trivial⟩, trivial⟩
       ·refine ifN ?_
        refine ⟨leb rfl, ?_⟩
        refine If.mk (fun h5 => ?_) (fun h5 => ?_)
        ·refine ifY ?_
         exact ⟨leb rfl, .inl rfl, FinG.no rfl rfl (fun x => by have := (x.1.1 _ (List.getElem_mem hr')).2; omega)⟩
        ·refine ifN ?_
         refine Side.mk (fits64 (by omega)) ?_
         exact ⟨leb rfl, rfl, by omega, all_snoc (by omega) hI ⟨all_end (by omega) hJ, by omega⟩, ⟨wp rfl (ltb rfl), wp rfl trivial, trivial⟩, ⟨bk rfl rfl, trivial⟩, trivial⟩
      ·refine ifN ?_
       refine ⟨leb rfl, ?_⟩
       refine If.mk (fun h5 => ?_) (fun h5 => ?_)
       ·refine ifY ?_
        exact ⟨leb rfl, .inl rfl, FinG.no rfl rfl (fun x => by have := (x.1.1 _ (List.getElem_mem hr')).2; omega)⟩
       ·refine ifN ?_
        refine Side.mk (fits64 (by omega)) ?_
        exact ⟨leb rfl, rfl, by omega, all_snoc (by omega) hI ⟨all_end (by omega) hJ, by omega⟩, ⟨wp rfl (ltb rfl), wp rfl trivial, trivial⟩, ⟨bk rfl rfl, trivial⟩, trivial⟩
    ·refine ifN ?_
     refine ⟨Nat.zero_le _, ?_⟩
     refine If.mk (fun h3 => ?_) (fun h3 => ?_)
     ·have hsh : Short b := ⟨all_end (by omega) hI, h3⟩
      refine If.mk (fun h4 => ?_) (fun h4 => ?_)
      ·refine CallG.bool (c_book hsh.len) (fun h5 => ?_) (fun h5 => ?_)
       ·exact ⟨.inl rfl, FinG.yes rfl rfl ⟨hsh, h4, h5⟩⟩
       ·exact ⟨.inl rfl, FinG.no rfl rfl fun x => h5 x.2.2⟩
      ·exact ⟨.inl rfl, FinG.no rfl rfl fun x => h4 x.2.1⟩
     ·exact ⟨.inl rfl, FinG.no rfl rfl (fun x => h3 x.1.2)⟩
   ·refine ifN ?_
    refine ⟨Nat.zero_le _, ?_⟩
    refine If.mk (fun h3 => ?_) (fun h3 => ?_)
    ·have hsh : Short b := ⟨all_end (by omega) hI, h3⟩
     refine If.mk (fun h4 => ?_) (fun h4 => ?_)
     ·refine CallG.bool (c_book hsh.len) (fun h5 => ?_) (fun h5 => ?_)
      ·exact ⟨.inl rfl, FinG.yes rfl rfl ⟨hsh, h4, h5⟩⟩
      ·exact ⟨.inl rfl, FinG.no rfl rfl fun x => h5 x.2.2⟩
     ·exact ⟨.inl rfl, FinG.no rfl rfl fun x => h4 x.2.1⟩
    ·exact ⟨.inl rfl, FinG.no rfl rfl (fun x => h3 x.1.2)⟩
set_option maxRecDepth 100000 in
theorem c_sameLists {L : List (List Int)} (hl : L.length < 1000000) (hx : ∀ l ∈ L, l.length < 1000000) (H : List Blk) : ACall Tryz.prog 35 [eLists L, eLists L] H (.ret (nb true)) H := by
 refine fn_rule (m := false) (fn := Tryz.f35) (c := (Tryz.f35.body).getD .skip) mixed (by kernel_rfl) (by kernel_rfl) (of_decide_eq_true (by kernel_rfl)) ?_ ?_ ?_ H
 ·exact ⟨under_eLists _ _, under_eLists _ _, trivial⟩
 ·exact trivial
 ·refine If.mk (fun _ => ?_) (fun h => absurd rfl h)
  refine ifN ?_
  refine LoopG.at (n0 := 0) rfl ?_
  refine loop_up mixed (m := false) (fun r => [(0, eLists L), (1, eLists L), (5, n' r)]) (fun _ => []) (fun _ => True) L.length 0 (leb rfl) trivial ?_ trivial ?_
  ·exact ⟨⟨_, rfl, Weak.refl _ _, under_eLists _ _⟩, ⟨_, rfl, Weak.refl _ _, under_eLists _ _⟩, wp rfl trivial, trivial⟩
  ·intro r hr _
   refine If.mk (fun h1 => ?_) (fun h1 => ?_)
   ·refine ifY ?_
    obtain ⟨x, hxr, _, hxm⟩ := at_some (l := L) (r := r) (by omega)
    have hxl := hx x hxm
    refine Ex.mk _ (jx_lists (r := r) rfl hxr) ?_
    refine Ex.mk _ rfl ?_
    refine Ex.mk _ (jx_lists (r := r) rfl hxr) ?_
    refine Ex.mk _ rfl ?_
    refine CallG.bool (c_same x x (by omega)) (fun _ => ?_) (fun h => absurd rfl h)
    refine ifN ?_
    refine Side.mk (fits64 (by omega)) ?_
    exact ⟨leb rfl, rfl, by omega, trivial, ⟨⟨_, rfl, Weak.refl _ _, under_eLists _ _⟩, ⟨_, rfl, Weak.refl _ _, under_eLists _ _⟩, wp rfl trivial, trivial⟩, trivial, trivial⟩
   ·refine ifN ?_
    exact ⟨leb rfl, .inl rfl, FinG.mk _ rfl rfl rfl⟩
end Go.Vm

namespace Go.Vm
open Go.Proofs
def nilS2 (k : Int) : AV := .tup [.lit (.slice none 0 0), .lit (.int .i64 k)]
set_option maxRecDepth 100000 in
theorem c_left_none {b : Book} (hl : BLen b) (hB : BOk b) {evs : List Evening} (hE : EvsOk b evs) {now : Evening} (hN : EvOk b now) (hne : remL b.vs (evs ++ [now]) b.vs.length = []) (H : List Blk) :
  ACall Tryz.prog 67 [eBook b, .lit (.bool true), eEvenings evs, eEvening now] H (.ret (nilS2 7)) H := by
 have hel := hE.2
 obtain ⟨⟨⟨hn1, hn2⟩, ⟨hn3, hn4⟩⟩, hn5⟩ := hN
 refine fn_rule (m := false) (fn := Tryz.f67) (c := (Tryz.f67.body).getD .skip) mixed (by kernel_rfl) (by kernel_rfl) (of_decide_eq_true (by kernel_rfl)) ?_ ?_ ?_ H
 ·exact ⟨under_eBook 0 _, trivial, under_eEvenings 0 _, under_eEvening 0 _, trivial⟩
 ·exact under_tup2 trivial trivial
 ·refine CallG.bool (c_isBook hl) (fun _ => ?_) (fun x => absurd hB x)
  refine CallG.bool (c_areEvenings hB.fit _ (by omega) (fun e he => ?_)) (fun _ => ?_) (fun x => absurd hE x)
  ·obtain ⟨⟨⟨g1, _⟩, ⟨_, g2⟩⟩, _⟩ := hE.1 e he
   omega
  ·refine CallG.bool (c_isEvening hB.fit now (by omega) (by omega)) (fun _ => ?_) (fun x => absurd ⟨⟨⟨hn1, hn2⟩, ⟨hn3, hn4⟩⟩, hn5⟩ x)
   refine ifN ?_
   refine CallG.try rfl rfl ?_
   refine CallG.inlineP (m := false) (fn := Tryz.f125) (c := (Tryz.f125.body).getD .skip) mixed (by kernel_rfl) (by kernel_rfl) (of_decide_eq_true (by kernel_rfl)) ?_
   refine CallG.clone (by omega) (leb rfl) ?_
   refine ex_app _ _ (app_evening (flat2_length (fun _ => rfl) _) (by omega) rfl) ?_
   refine CallG.inlineP (m := false) (fn := Tryz.f126) (c := (Tryz.f126.body).getD .skip) mixed (by kernel_rfl) (by kernel_rfl) (of_decide_eq_true (by kernel_rfl)) ?_
   refine CallG.weak _ (.cons (fun H => WeakH.refl _ H) (.cons wk_evs .nil)) (c_remains hB (fun e he => ?_) (by rw [List.length_append]; simp; omega)) ?_
   ·rcases List.mem_append.1 he with he | he
    ·exact hE.1 e he
    ·rw [List.mem_singleton] at he; subst he; exact ⟨⟨⟨hn1, hn2⟩, ⟨hn3, hn4⟩⟩, hn5⟩
   ·rw [hne]
    refine If.mk (fun _ => ?_) (fun h => absurd (by decide) h)
    refine ifY ?_
    refine .inr ⟨_, rfl, rfl, ?_⟩
    refine .inr ⟨_, rfl, rfl, ?_⟩
    refine ⟨⟨_, rfl⟩, ⟨_, rfl⟩, ?_⟩
    refine If.mk (fun h => absurd h (by decide)) (fun _ => ?_)
    refine ifY ?_
    exact ⟨.inl rfl, FinG.mk _ rfl rfl rfl⟩
set_option maxRecDepth 100000 in
theorem c_sure_none {b : Book} (hl : BLen b) (hB : BOk b) {evs : List Evening} (hE : EvsOk b evs) {cues : List Int} (hC : LList b cues) (hne : remL b.vs (evs ++ [([], [])]) b.vs.length = []) (H : List Blk) :
  ACall Tryz.prog 27 [eBook b, eEvenings evs, eInts cues] H (.ret (nilS2 7)) H := by
 have hcl := hC.1
 refine fn_rule (m := false) (fn := Tryz.f27) (c := (Tryz.f27.body).getD .skip) mixed (by kernel_rfl) (by kernel_rfl) (of_decide_eq_true (by kernel_rfl)) ?_ ?_ ?_ H
 ·exact ⟨under_eBook 0 _, under_eEvenings 0 _, under_eInts 0 _, trivial⟩
 ·exact under_tup2 trivial trivial
 ·refine CallG.bool (c_isBook hl) (fun _ => ?_) (fun x => absurd hB x)
  refine CallG.bool (c_areCues hB.fit _ (by omega)) (fun _ => ?_) (fun x => absurd hC x)
  have hN : EvOk b ([], []) := ⟨⟨⟨(by simp), fun c h => (by cases h)⟩, ⟨fun c h => (by cases h), (by simp)⟩⟩, rfl⟩
  refine CallG.weak _ (.cons (fun H => WeakH.refl _ H) (.cons (fun H => WeakH.refl _ H) (.cons (fun H => WeakH.refl _ H) (.cons wk_ev0 .nil)))) (c_left_none hl hB hE hN hne) ?_
  refine If.mk (fun h => absurd h (by decide)) (fun _ => ?_)
  refine ifY ?_
  exact ⟨.inl rfl, FinG.mk _ rfl rfl rfl⟩
end Go.Vm
