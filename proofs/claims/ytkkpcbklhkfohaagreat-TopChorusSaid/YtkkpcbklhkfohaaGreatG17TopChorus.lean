/-
  Texts of the proof, part 17: the machine, contracts of functions, plain laws. (Own work.)
-/
import Derived.Test.YtkkpcbklhkfohaaGreatG16TopChorus
import Derived.Test.YtkkpcbklhkfohaaGreatG15TopChorus
import Derived.Test.YtkkpcbklhkfohaaGreatG12TopChorus
import Derived.Test.YtkkpcbklhkfohaaGreatG11TopChorus

namespace Go.Vm
open Go.Proofs
def cntC (C : List (List Int)) (o : List (List Int)) : List AV := o.flatMap fun l => [eInts l, n' (sumE C l : Nat)]
theorem cntC_length (C o : List (List Int)) : (cntC C o).length = o.length * 2 := by
 unfold cntC
 induction o with
 | nil => rfl
 | cons x o ih => rw [List.flatMap_cons, List.length_append, ih, List.length_cons, List.length_cons, List.length_cons, List.length_nil]; omega
theorem under_cntC (n : Nat) (C o : List (List Int)) : AV.unders n (cntC C o) := by
 unfold cntC
 induction o with
 | nil => exact trivial
 | cons x o ih => rw [List.flatMap_cons]; exact unders_append ⟨under_eInts _ _, trivial, trivial⟩ ih
theorem cntC_snoc (C o : List (List Int)) (l : List Int) : cntC C (o ++ [l]) = cntC C o ++ [eInts l, n' (sumE C l : Nat)] := by unfold cntC; simp
theorem app_cnt {g : Nat → Option Blk} {n len id gen : Nat} {cells : List AV} {l : List Int} {x : Int} (h1 : cells.length = len * 2) (h2 : len < 2097152) (hg : g id = some (.row gen)) :
  appT Tryz.prog false g n 211 211 (.sl len cells (.own id gen 2)) (.sl 1 [eInts l, n' x] .full) = some (.sl (len + 1) (cells ++ [eInts l, n' x]) (.own id (gen + 1) 2), .set id (.row (gen + 1))) :=
 appT_own (e := 261) (bytes := 32) (z := .agg #[.slice none 0 0, .int .i64 0]) (by kernel_rfl) (by kernel_rfl) (by kernel_rfl) (by kernel_rfl) (by kernel_rfl) rfl (by omega) h1 (by omega) hg rfl
def UnderL (n : Nat) : List (Nat × Blk) → Prop
 | [] => True
 | p :: l => p.2.under n ∧ UnderL n l
theorem UnderL.mem {n : Nat} : ∀ {l : List (Nat × Blk)}, UnderL n l → ∀ p ∈ l, p.2.under n
 | [], _, _, h => by cases h
 | q :: l, hs, p, h => by
  rcases List.mem_cons.1 h with rfl | h
  ·exact hs.1
  ·exact UnderL.mem hs.2 p h
def srcU (d : Nat) (now : List Int) (r : Nat) : List (List Int) := (List.range r).flatMap fun w : Nat => srchW 3 d (now ++ [(w : Int)])
theorem srcU_zero (d : Nat) (now : List Int) : srcU d now 0 = [] := rfl
theorem srcU_succ (d : Nat) (now : List Int) (r : Nat) : srcU d now (r + 1) = srcU d now r ++ srchW 3 d (now ++ [(r : Int)]) := by
 unfold srcU
 rw [List.range_succ, List.flatMap_append]
 simp
theorem srcU_full (d : Nat) (now : List Int) : srcU d now 3 = srchW 3 (d + 1) now := rfl
theorem srcU_le {d : Nat} {now : List Int} {r : Nat} : ∀ {q : Nat}, r ≤ q → (srcU d now r).length ≤ (srcU d now q).length
 | 0, h => by rw [show r = 0 by omega]; exact Nat.le_refl _
 | q + 1, h => by
  rcases Nat.lt_or_ge q r with h1 | h1
  ·rw [show r = q + 1 by omega]; exact Nat.le_refl _
  ·have := srcU_le (d := d) (now := now) h1
   rw [srcU_succ, List.length_append]; omega
theorem wk_snoc {now : List Int} {r : Nat} {tl : Tail} (H : List Blk) : WeakH H (.sl (now.length + 1) (now.map n' ++ [n' r]) tl) (eInts (now ++ [(r : Int)])) := by
 unfold eInts
 rw [List.length_append, List.map_append]
 exact WeakH.tail _ _ _ H
def linesU (long : Nat) : List (List Int) := (List.range long).flatMap fun d => srchW 3 d []
theorem linesU_succ (long : Nat) : linesU (long + 1) = linesU long ++ srchW 3 long [] := by
 unfold linesU
 rw [List.range_succ, List.flatMap_append]
 simp
theorem linesU_full : linesU 5 = linesW 3 := rfl
theorem srchW_length (W d : Nat) : ∀ now : List Int, (srchW W d now).length = W ^ d := by
 induction d with
 | zero => intro now; simp [srchW]
 | succ d ih =>
  intro now
  unfold srchW
  rw [List.length_flatMap]
  simp only [ih]
  rw [List.map_const', List.sum_replicate_nat, List.length_range, Nat.pow_succ, Nat.mul_comm]
theorem linesU_small {r : Nat} (h : r ≤ 4) : (linesU r).length + (srchW 3 r []).length ≤ 1000000 := by
 rw [srchW_length]
 have e : ∀ k, (linesU k).length ≤ k * 3 ^ k := fun k => by
  unfold linesU
  rw [List.length_flatMap]
  simp only [srchW_length]
  have : ∀ l : List Nat, (∀ d ∈ l, d ≤ k) → (l.map fun d => 3 ^ d).sum ≤ l.length * 3 ^ k := fun l hl => by
   induction l with
   | nil => simp
   | cons d l ih =>
    rw [List.map_cons, List.sum_cons, List.length_cons, Nat.add_mul]
    have h1 := ih fun x hx => hl x (by simp [hx])
    have h2 : 3 ^ d ≤ 3 ^ k := Nat.pow_le_pow_right (by omega) (hl d (by simp))
    omega
  have h := this (List.range k) (fun d hd => by have := List.mem_range.1 hd; omega)
  rwa [List.length_range] at h
 have h1 := e r
 have h2 : 3 ^ r ≤ 3 ^ 4 := Nat.pow_le_pow_right (by omega) h
 have h3 : r * 3 ^ r ≤ 4 * 3 ^ 4 := Nat.mul_le_mul h h2
 omega
theorem linesF_small (p : List Int → Bool) {r : Nat} (h : r ≤ 4) : ((linesU r).filter p).length ≤ 1000000 := by
 have := linesU_small h
 have := List.length_filter_le p (linesU r)
 omega
theorem linesF_small2 (p : List Int → Bool) {r : Nat} (h : r ≤ 4) : ((linesU r).filter p).length + (srchW 3 r []).length ≤ 1000000 := by
 have := linesU_small h
 have := List.length_filter_le p (linesU r)
 omega
noncomputable def srAL0 (C : List (List Int)) (o : List (List Int)) : List (Nat × Blk) :=
 [(0, .box (pgC C) 150), (1, .box [.sl o.length (cntC C o) (.own 3 o.length 2)] 211), (2, vbBox C), (3, .row o.length), (4, .defd), (5, lpB Tryz.f138 .ready [(1, .ptr 0 0), (3, .ptr 1 0), (8, .fn (.func 140) [] [.ptr 2 0])] 4), (6, .box [.yld 5] 109), (7, .box [n' 3] 3), (8, .box [n' 0] 3), (9, .defd), (10, lpB Tryz.f140 .ready [(1, .ptr 2 0), (2, .ptr 6 0), (5, n' 0), (11, .fn (.func 179) [] [.ptr 8 0, .ptr 7 0])] 9), (11, .box [.yld 10] 109), (12, .box [.fn (.func 180) [] [.ptr 8 0, .ptr 11 0, .ptr 7 0, .ptr 12 0]] 109)]
theorem srAL0_numd (C : List (List Int)) (o : List (List Int)) : Numd 0 (srAL0 C o) := ⟨rfl, rfl, rfl, rfl, rfl, rfl, rfl, rfl, rfl, rfl, rfl, rfl, rfl, trivial⟩
theorem srAL0_marks (C : List (List Int)) (o o' : List (List Int)) : MarksL (srAL0 C o) (srAL0 C o') :=
 .cons (fun e => e) (.cons (fun e => by cases e) (.cons (fun e => e) (.cons (fun e => by cases e) (MarksL.same _))))
theorem srAL0_under (C : List (List Int)) (o : List (List Int)) : ∀ q ∈ srAL0 C o, q.2.under 13 :=
 UnderL.mem (l := srAL0 C o) ⟨under_pgC _ _, ⟨⟨under_cntC _ _ _, ltb rfl⟩, trivial⟩, vbBox_under _ _, trivial, trivial, under_lpB ⟨ltb rfl, ltb rfl, ⟨trivial, ltb rfl, trivial⟩, trivial⟩ (ltb rfl), ⟨ltb rfl, trivial⟩, ⟨trivial, trivial⟩, ⟨trivial, trivial⟩, trivial, under_lpB ⟨ltb rfl, ltb rfl, trivial, ⟨trivial, ltb rfl, ltb rfl, trivial⟩, trivial⟩ (ltb rfl), ⟨ltb rfl, trivial⟩, ⟨⟨trivial, ltb rfl, ltb rfl, ltb rfl, ltb rfl, trivial⟩, trivial⟩, trivial⟩
set_option maxHeartbeats 4000000 in
set_option maxRecDepth 100000 in
theorem c_srA00 (C : List (List Int)) (hC : VbOk C) {now : List Int} (hn : now.length = 0) (hl : LineOk now) {o : List (List Int)} (ho : o.length ≤ 1000000) :
  ACall Tryz.prog 180 (eInts now :: [.ptr 8 0, .ptr 11 0, .ptr 7 0, .ptr 12 0]) (hp (srAL0 C o)) (.ret (nb true)) (hp (srAL0 C (o ++ [now].filter (fun _ => true)))) := by
 refine fn_keep (m := false) (fn := Tryz.f180) (c := (Tryz.f180.body).getD .skip) (p := 13) mixed (by kernel_rfl) (by kernel_rfl) (of_decide_eq_true (by kernel_rfl)) rfl (srAL0_numd C _) (srAL0_numd C _) rfl rfl (srAL0_under C _) ?_
 refine If.mk (fun _ => ?_) (fun h => absurd ((show (now.length : Int) = 0 by omega)) h)
 refine ifY ?_
 refine RoundG.intro (m := false) mixed rfl rfl (show ∀ s ∈ (#[12] : Array Tmp), s < 18 by decide) ?_
 refine ⟨rfl, _, rfl, rfl, ?_⟩
 refine RoundG.intro (m := false) mixed rfl rfl (by decide) ?_
 refine ⟨rfl, _, rfl, rfl, ?_⟩
 refine CallG.pure _ (c_vchanges hC hl) ?_
 refine ex_app _ _ (app_cnt (cntC_length C o) (by omega) rfl) ?_
 refine ⟨_, _, rfl, rfl, ?_⟩
 refine ifN ?_
 refine ⟨_, _, rfl, rfl, ?_⟩
 refine ⟨.inl rfl, ?_, FinF.mk _ rfl rfl rfl⟩
 have e : (o ++ [now]).length = o.length + 1 := by simp
 have ef : [now].filter (fun _ => true) = [now] := rfl
 rw [ef]
 refine ⟨bk rfl rfl, ⟨?_, ltb rfl⟩, bk rfl rfl, ⟨?_, ltb rfl⟩, bk rfl rfl, bk rfl rfl, bk rfl rfl, bk rfl rfl, bk rfl rfl, bk rfl rfl, bk rfl rfl, bk rfl rfl, bk rfl rfl, trivial⟩
 ·show _ = some (Blk.box [.sl (o ++ [now]).length (cntC C (o ++ [now])) (.own 3 (o ++ [now]).length 2)] 211)
  rw [cntC_snoc, e]
  rfl
 ·show _ = some (Blk.row (o ++ [now]).length)
  rw [e]
  rfl
noncomputable def srAL1 (C : List (List Int)) (o : List (List Int)) : List (Nat × Blk) :=
 [(0, .box (pgC C) 150), (1, .box [.sl o.length (cntC C o) (.own 3 o.length 2)] 211), (2, vbBox C), (3, .row o.length), (4, .defd), (5, lpB Tryz.f138 .ready [(1, .ptr 0 0), (3, .ptr 1 0), (8, .fn (.func 140) [] [.ptr 2 0])] 4), (6, .box [.yld 5] 109), (7, .box [n' 3] 3), (8, .box [n' 0] 3), (9, .defd), (10, lpB Tryz.f140 .exhausted [(1, .ptr 2 0), (2, .ptr 6 0), (5, n' 0), (11, .fn (.func 179) [] [.ptr 8 0, .ptr 7 0])] 9), (11, .box [.yld 10] 109), (12, .box [.fn (.func 180) [] [.ptr 8 0, .ptr 11 0, .ptr 7 0, .ptr 12 0]] 109), (13, .box [n' 3] 3), (14, .box [n' 1] 3), (15, .defd), (16, lpB Tryz.f140 .ready [(1, .ptr 2 0), (2, .ptr 6 0), (5, n' 1), (11, .fn (.func 179) [] [.ptr 14 0, .ptr 13 0])] 15), (17, .box [.yld 16] 109), (18, .box [.fn (.func 180) [] [.ptr 14 0, .ptr 17 0, .ptr 13 0, .ptr 18 0]] 109)]
theorem srAL1_numd (C : List (List Int)) (o : List (List Int)) : Numd 0 (srAL1 C o) := ⟨rfl, rfl, rfl, rfl, rfl, rfl, rfl, rfl, rfl, rfl, rfl, rfl, rfl, rfl, rfl, rfl, rfl, rfl, rfl, trivial⟩
theorem srAL1_marks (C : List (List Int)) (o o' : List (List Int)) : MarksL (srAL1 C o) (srAL1 C o') :=
 .cons (fun e => e) (.cons (fun e => by cases e) (.cons (fun e => e) (.cons (fun e => by cases e) (MarksL.same _))))
theorem srAL1_under (C : List (List Int)) (o : List (List Int)) : ∀ q ∈ srAL1 C o, q.2.under 19 :=
 UnderL.mem (l := srAL1 C o) ⟨under_pgC _ _, ⟨⟨under_cntC _ _ _, ltb rfl⟩, trivial⟩, vbBox_under _ _, trivial, trivial, under_lpB ⟨ltb rfl, ltb rfl, ⟨trivial, ltb rfl, trivial⟩, trivial⟩ (ltb rfl), ⟨ltb rfl, trivial⟩, ⟨trivial, trivial⟩, ⟨trivial, trivial⟩, trivial, under_lpB ⟨ltb rfl, ltb rfl, trivial, ⟨trivial, ltb rfl, ltb rfl, trivial⟩, trivial⟩ (ltb rfl), ⟨ltb rfl, trivial⟩, ⟨⟨trivial, ltb rfl, ltb rfl, ltb rfl, ltb rfl, trivial⟩, trivial⟩, ⟨trivial, trivial⟩, ⟨trivial, trivial⟩, trivial, under_lpB ⟨ltb rfl, ltb rfl, trivial, ⟨trivial, ltb rfl, ltb rfl, trivial⟩, trivial⟩ (ltb rfl), ⟨ltb rfl, trivial⟩, ⟨⟨trivial, ltb rfl, ltb rfl, ltb rfl, ltb rfl, trivial⟩, trivial⟩, trivial⟩
set_option maxHeartbeats 4000000 in
set_option maxRecDepth 100000 in
theorem c_srA01 (C : List (List Int)) (hC : VbOk C) {now : List Int} (hn : now.length = 1) (hl : LineOk now) {o : List (List Int)} (ho : o.length ≤ 1000000) :
  ACall Tryz.prog 180 (eInts now :: [.ptr 14 0, .ptr 17 0, .ptr 13 0, .ptr 18 0]) (hp (srAL1 C o)) (.ret (nb true)) (hp (srAL1 C (o ++ [now].filter (fun _ => true)))) := by
 refine fn_keep (m := false) (fn := Tryz.f180) (c := (Tryz.f180.body).getD .skip) (p := 19) mixed (by kernel_rfl) (by kernel_rfl) (of_decide_eq_true (by kernel_rfl)) rfl (srAL1_numd C _) (srAL1_numd C _) rfl rfl (srAL1_under C _) ?_
 refine If.mk (fun _ => ?_) (fun h => absurd ((show (now.length : Int) = 1 by omega)) h)
 refine ifY ?_
 refine RoundG.intro (m := false) mixed rfl rfl (show ∀ s ∈ (#[12] : Array Tmp), s < 18 by decide) ?_
 refine ⟨rfl, _, rfl, rfl, ?_⟩
 refine RoundG.intro (m := false) mixed rfl rfl (by decide) ?_
 refine ⟨rfl, _, rfl, rfl, ?_⟩
 refine CallG.pure _ (c_vchanges hC hl) ?_
 refine ex_app _ _ (app_cnt (cntC_length C o) (by omega) rfl) ?_
 refine ⟨_, _, rfl, rfl, ?_⟩
 refine ifN ?_
 refine ⟨_, _, rfl, rfl, ?_⟩
 refine ⟨.inl rfl, ?_, FinF.mk _ rfl rfl rfl⟩
 have e : (o ++ [now]).length = o.length + 1 := by simp
 have ef : [now].filter (fun _ => true) = [now] := rfl
 rw [ef]
 refine ⟨bk rfl rfl, ⟨?_, ltb rfl⟩, bk rfl rfl, ⟨?_, ltb rfl⟩, bk rfl rfl, bk rfl rfl, bk rfl rfl, bk rfl rfl, bk rfl rfl, bk rfl rfl, bk rfl rfl, bk rfl rfl, bk rfl rfl, bk rfl rfl, bk rfl rfl, bk rfl rfl, bk rfl rfl, bk rfl rfl, bk rfl rfl, trivial⟩
 ·show _ = some (Blk.box [.sl (o ++ [now]).length (cntC C (o ++ [now])) (.own 3 (o ++ [now]).length 2)] 211)
  rw [cntC_snoc, e]
  rfl
 ·show _ = some (Blk.row (o ++ [now]).length)
  rw [e]
  rfl
set_option maxHeartbeats 4000000 in
set_option maxRecDepth 100000 in
theorem c_srA1 (C : List (List Int)) (hC : VbOk C) : ∀ (d : Nat) {now : List Int} {o : List (List Int)} (_ : now.length + d = 1) (_ : ∀ x ∈ now, 0 ≤ x ∧ x < 3) (_ : o.length + (srchW 3 d now).length ≤ 1000000),
  ACall Tryz.prog 180 (eInts now :: [.ptr 14 0, .ptr 17 0, .ptr 13 0, .ptr 18 0]) (hp (srAL1 C o)) (.ret (nb true)) (hp (srAL1 C (o ++ (srchW 3 d now).filter (fun _ => true))))
 | 0, now, o, hn, hx, hh => c_srA01 C hC hn ⟨by omega, hx⟩ (by omega)
 | d + 1, now, o, hn, hx, hh => by
  rw [← srcU_full] at hh ⊢
  refine fn_keep (m := false) (fn := Tryz.f180) (c := (Tryz.f180.body).getD .skip) (p := 19) mixed (by kernel_rfl) (by kernel_rfl) (of_decide_eq_true (by kernel_rfl)) rfl (srAL1_numd C _) (srAL1_numd C _) rfl rfl (srAL1_under C _) ?_
  refine If.mk (fun h => absurd h ((show ¬ ((now.length : Int) = 1) by omega))) (fun _ => ?_)
  refine ifN ?_
  refine LoopG.at (n0 := 19) rfl (loop_up mixed (m := false) (fun r => [(0, eInts now), (1, .ptr 14 0), (2, .ptr 17 0), (3, .ptr 13 0), (4, .ptr 18 0), (15, n' 3), (16, n' r)]) (fun r => srAL1 C (o ++ (srcU d now r).filter (fun _ => true))) (fun _ => True) 3 1 (leb rfl) trivial ?_ ?_ ?_)
  ·exact ⟨⟨_, rfl, Weak.refl _ _, under_eInts _ _⟩, wp rfl (ltb rfl), wp rfl (ltb rfl), wp rfl (ltb rfl), wp rfl (ltb rfl), wp rfl trivial, wp rfl trivial, trivial⟩
  ·show Blks _ _ (srAL1 C (o ++ (srcU d now 0).filter (fun _ => true)))
   rw [srcU_zero, List.filter_nil, List.append_nil]
   exact ⟨bk rfl rfl, bk rfl rfl, bk rfl rfl, bk rfl rfl, bk rfl rfl, bk rfl rfl, bk rfl rfl, bk rfl rfl, bk rfl rfl, bk rfl rfl, bk rfl rfl, bk rfl rfl, bk rfl rfl, bk rfl rfl, bk rfl rfl, bk rfl rfl, bk rfl rfl, bk rfl rfl, bk rfl rfl, trivial⟩
  ·intro r hr _
   refine If.mk (fun h1 => ?_) (fun h1 => ?_)
   ·refine ifY ?_
    refine CallG.cloneI (by omega) (leb rfl) ?_
    refine ex_app _ _ (app_int (List.length_map _) (by omega) rfl) ?_
    have hs := srcU_succ d now r
    have hsl := congrArg List.length hs
    rw [List.length_append] at hsl
    have hle := srcU_le (d := d) (now := now) (show r + 1 ≤ 3 by omega)
    have hfl := List.length_filter_le (fun _ => true) (srcU d now r)
    refine CallG.pre (eInts (now ++ [(r : Int)]) :: [.ptr 14 0, .ptr 17 0, .ptr 13 0, .ptr 18 0]) (srAL1 C (o ++ (srcU d now r).filter (fun _ => true))) (srAL1 C (o ++ (srcU d now (r + 1)).filter (fun _ => true))) (nb true) 1 (.cons (fun H => wk_snoc H) (.cons (fun H => WeakH.refl _ H) (.cons (fun H => WeakH.refl _ H) (.cons (fun H => WeakH.refl _ H) (.cons (fun H => WeakH.refl _ H) .nil)))))
     (srAL1_numd C _) (srAL1_numd C _) rfl (srAL1_marks C _ _) ⟨bk rfl rfl, bk rfl rfl, bk rfl rfl, bk rfl rfl, bk rfl rfl, bk rfl rfl, bk rfl rfl, bk rfl rfl, bk rfl rfl, bk rfl rfl, bk rfl rfl, bk rfl rfl, bk rfl rfl, bk rfl rfl, bk rfl rfl, bk rfl rfl, bk rfl rfl, bk rfl rfl, bk rfl rfl, trivial⟩ rfl ⟨under_eInts _ _, ltb rfl, ltb rfl, ltb rfl, ltb rfl, trivial⟩ rfl (srAL1_under C _) (srAL1_under C _) ?_ ?_
    ·rw [hs, List.filter_append, ← List.append_assoc]
     refine c_srA1 C hC d (by rw [List.length_append, List.length_singleton]; omega) (fun x hx' => ?_) (by rw [List.length_append]; omega)
     rcases List.mem_append.1 hx' with h | h
     ·exact hx x h
     ·rw [List.mem_singleton] at h; omega
    ·refine ifN ?_
     refine Side.mk (fits64 (by omega)) ?_
     exact ⟨leb rfl, rfl, by omega, trivial, ⟨⟨_, rfl, Weak.refl _ _, under_eInts _ _⟩, wp rfl (ltb rfl), wp rfl (ltb rfl), wp rfl (ltb rfl), wp rfl (ltb rfl), wp rfl trivial, wp rfl trivial, trivial⟩, ⟨bk rfl rfl, bk rfl rfl, bk rfl rfl, bk rfl rfl, bk rfl rfl, bk rfl rfl, bk rfl rfl, bk rfl rfl, bk rfl rfl, bk rfl rfl, bk rfl rfl, bk rfl rfl, bk rfl rfl, bk rfl rfl, bk rfl rfl, bk rfl rfl, bk rfl rfl, bk rfl rfl, bk rfl rfl, trivial⟩, ⟨_, rfl, ⟨under_cntC _ _ _, ltb rfl⟩, trivial⟩, ⟨_, rfl, vbBox_under _ _⟩, ⟨_, rfl, trivial⟩, ⟨_, rfl, trivial⟩, ⟨_, rfl, under_lpB ⟨ltb rfl, ltb rfl, ⟨trivial, ltb rfl, trivial⟩, trivial⟩ (ltb rfl)⟩, ⟨_, rfl, ltb rfl, trivial⟩, ⟨_, rfl, trivial, trivial⟩, ⟨_, rfl, trivial, trivial⟩, ⟨_, rfl, trivial⟩, ⟨_, rfl, under_lpB ⟨ltb rfl, ltb rfl, trivial, ⟨trivial, ltb rfl, ltb rfl, trivial⟩, trivial⟩ (ltb rfl)⟩, ⟨_, rfl, ltb rfl, trivial⟩, ⟨_, rfl, ⟨trivial, ltb rfl, ltb rfl, ltb rfl, ltb rfl, trivial⟩, trivial⟩, ⟨_, rfl, trivial, trivial⟩, ⟨_, rfl, trivial, trivial⟩, ⟨_, rfl, trivial⟩, ⟨_, rfl, under_lpB ⟨ltb rfl, ltb rfl, trivial, ⟨trivial, ltb rfl, ltb rfl, trivial⟩, trivial⟩ (ltb rfl)⟩, ⟨_, rfl, ltb rfl, trivial⟩, ⟨_, rfl, ⟨trivial, ltb rfl, ltb rfl, ltb rfl, ltb rfl, trivial⟩, trivial⟩, trivial⟩
   ·refine ifN ?_
    obtain rfl : r = 3 := by omega
    refine ⟨leb rfl, ?_⟩
    exact ⟨.inl rfl, ⟨bk rfl rfl, bk rfl rfl, bk rfl rfl, bk rfl rfl, bk rfl rfl, bk rfl rfl, bk rfl rfl, bk rfl rfl, bk rfl rfl, bk rfl rfl, bk rfl rfl, bk rfl rfl, bk rfl rfl, bk rfl rfl, bk rfl rfl, bk rfl rfl, bk rfl rfl, bk rfl rfl, bk rfl rfl, trivial⟩, FinF.mk _ rfl rfl rfl⟩
noncomputable def srAL2 (C : List (List Int)) (o : List (List Int)) : List (Nat × Blk) :=
 [(0, .box (pgC C) 150), (1, .box [.sl o.length (cntC C o) (.own 3 o.length 2)] 211), (2, vbBox C), (3, .row o.length), (4, .defd), (5, lpB Tryz.f138 .ready [(1, .ptr 0 0), (3, .ptr 1 0), (8, .fn (.func 140) [] [.ptr 2 0])] 4), (6, .box [.yld 5] 109), (7, .box [n' 3] 3), (8, .box [n' 0] 3), (9, .defd), (10, lpB Tryz.f140 .exhausted [(1, .ptr 2 0), (2, .ptr 6 0), (5, n' 0), (11, .fn (.func 179) [] [.ptr 8 0, .ptr 7 0])] 9), (11, .box [.yld 10] 109), (12, .box [.fn (.func 180) [] [.ptr 8 0, .ptr 11 0, .ptr 7 0, .ptr 12 0]] 109), (13, .box [n' 3] 3), (14, .box [n' 1] 3), (15, .defd), (16, lpB Tryz.f140 .exhausted [(1, .ptr 2 0), (2, .ptr 6 0), (5, n' 1), (11, .fn (.func 179) [] [.ptr 14 0, .ptr 13 0])] 15), (17, .box [.yld 16] 109), (18, .box [.fn (.func 180) [] [.ptr 14 0, .ptr 17 0, .ptr 13 0, .ptr 18 0]] 109), (19, .box [n' 3] 3), (20, .box [n' 2] 3), (21, .defd), (22, lpB Tryz.f140 .ready [(1, .ptr 2 0), (2, .ptr 6 0), (5, n' 2), (11, .fn (.func 179) [] [.ptr 20 0, .ptr 19 0])] 21), (23, .box [.yld 22] 109), (24, .box [.fn (.func 180) [] [.ptr 20 0, .ptr 23 0, .ptr 19 0, .ptr 24 0]] 109)]
theorem srAL2_numd (C : List (List Int)) (o : List (List Int)) : Numd 0 (srAL2 C o) := ⟨rfl, rfl, rfl, rfl, rfl, rfl, rfl, rfl, rfl, rfl, rfl, rfl, rfl, rfl, rfl, rfl, rfl, rfl, rfl, rfl, rfl, rfl, rfl, rfl, rfl, trivial⟩
theorem srAL2_marks (C : List (List Int)) (o o' : List (List Int)) : MarksL (srAL2 C o) (srAL2 C o') :=
 .cons (fun e => e) (.cons (fun e => by cases e) (.cons (fun e => e) (.cons (fun e => by cases e) (MarksL.same _))))
theorem srAL2_under (C : List (List Int)) (o : List (List Int)) : ∀ q ∈ srAL2 C o, q.2.under 25 :=
 UnderL.mem (l := srAL2 C o) ⟨under_pgC _ _, ⟨⟨under_cntC _ _ _, ltb rfl⟩, trivial⟩, vbBox_under _ _, trivial, trivial, under_lpB ⟨ltb rfl, ltb rfl, ⟨trivial, ltb rfl, trivial⟩, trivial⟩ (ltb rfl), ⟨ltb rfl, trivial⟩, ⟨trivial, trivial⟩, ⟨trivial, trivial⟩, trivial, under_lpB ⟨ltb rfl, ltb rfl, trivial, ⟨trivial, ltb rfl, ltb rfl, trivial⟩, trivial⟩ (ltb rfl), ⟨ltb rfl, trivial⟩, ⟨⟨trivial, ltb rfl, ltb rfl, ltb rfl, ltb rfl, trivial⟩, trivial⟩, ⟨trivial, trivial⟩, ⟨trivial, trivial⟩, trivial, under_lpB ⟨ltb rfl, ltb rfl, trivial, ⟨trivial, ltb rfl, ltb rfl, trivial⟩, trivial⟩ (ltb rfl), ⟨ltb rfl, trivial⟩, ⟨⟨trivial, ltb rfl, ltb rfl, ltb rfl, ltb rfl, trivial⟩, trivial⟩, ⟨trivial, trivial⟩, ⟨trivial, trivial⟩, trivial, under_lpB ⟨ltb rfl, ltb rfl, trivial, ⟨trivial, ltb rfl, ltb rfl, trivial⟩, trivial⟩ (ltb rfl), ⟨ltb rfl, trivial⟩, ⟨⟨trivial, ltb rfl, ltb rfl, ltb rfl, ltb rfl, trivial⟩, trivial⟩, trivial⟩
set_option maxHeartbeats 4000000 in
set_option maxRecDepth 100000 in
theorem c_srA02 (C : List (List Int)) (hC : VbOk C) {now : List Int} (hn : now.length = 2) (hl : LineOk now) {o : List (List Int)} (ho : o.length ≤ 1000000) :
  ACall Tryz.prog 180 (eInts now :: [.ptr 20 0, .ptr 23 0, .ptr 19 0, .ptr 24 0]) (hp (srAL2 C o)) (.ret (nb true)) (hp (srAL2 C (o ++ [now].filter (fun _ => true)))) := by
 refine fn_keep (m := false) (fn := Tryz.f180) (c := (Tryz.f180.body).getD .skip) (p := 25) mixed (by kernel_rfl) (by kernel_rfl) (of_decide_eq_true (by kernel_rfl)) rfl (srAL2_numd C _) (srAL2_numd C _) rfl rfl (srAL2_under C _) ?_
 refine If.mk (fun _ => ?_) (fun h => absurd ((show (now.length : Int) = 2 by omega)) h)
 refine ifY ?_
 refine RoundG.intro (m := false) mixed rfl rfl (show ∀ s ∈ (#[12] : Array Tmp), s < 18 by decide) ?_
 refine ⟨rfl, _, rfl, rfl, ?_⟩
 refine RoundG.intro (m := false) mixed rfl rfl (by decide) ?_
 refine ⟨rfl, _, rfl, rfl, ?_⟩
 refine CallG.pure _ (c_vchanges hC hl) ?_
 refine ex_app _ _ (app_cnt (cntC_length C o) (by omega) rfl) ?_
 refine ⟨_, _, rfl, rfl, ?_⟩
 refine ifN ?_
 refine ⟨_, _, rfl, rfl, ?_⟩
 refine ⟨.inl rfl, ?_, FinF.mk _ rfl rfl rfl⟩
 have e : (o ++ [now]).length = o.length + 1 := by simp
 have ef : [now].filter (fun _ => true) = [now] := rfl
 rw [ef]
 refine ⟨bk rfl rfl, ⟨?_, ltb rfl⟩, bk rfl rfl, ⟨?_, ltb rfl⟩, bk rfl rfl, bk rfl rfl, bk rfl rfl, bk rfl rfl, bk rfl rfl, bk rfl rfl, bk rfl rfl, bk rfl rfl, bk rfl rfl, bk rfl rfl, bk rfl rfl, bk rfl rfl, bk rfl rfl, bk rfl rfl, bk rfl rfl, bk rfl rfl, bk rfl rfl, bk rfl rfl, bk rfl rfl, bk rfl rfl, bk rfl rfl, trivial⟩
 ·show _ = some (Blk.box [.sl (o ++ [now]).length (cntC C (o ++ [now])) (.own 3 (o ++ [now]).length 2)] 211)
  rw [cntC_snoc, e]
  rfl
 ·show _ = some (Blk.row (o ++ [now]).length)
  rw [e]
  rfl
set_option maxHeartbeats 4000000 in
set_option maxRecDepth 100000 in
theorem c_srA2 (C : List (List Int)) (hC : VbOk C) : ∀ (d : Nat) {now : List Int} {o : List (List Int)} (_ : now.length + d = 2) (_ : ∀ x ∈ now, 0 ≤ x ∧ x < 3) (_ : o.length + (srchW 3 d now).length ≤ 1000000),
  ACall Tryz.prog 180 (eInts now :: [.ptr 20 0, .ptr 23 0, .ptr 19 0, .ptr 24 0]) (hp (srAL2 C o)) (.ret (nb true)) (hp (srAL2 C (o ++ (srchW 3 d now).filter (fun _ => true))))
 | 0, now, o, hn, hx, hh => c_srA02 C hC hn ⟨by omega, hx⟩ (by omega)
 | d + 1, now, o, hn, hx, hh => by
  rw [← srcU_full] at hh ⊢
  refine fn_keep (m := false) (fn := Tryz.f180) (c := (Tryz.f180.body).getD .skip) (p := 25) mixed (by kernel_rfl) (by kernel_rfl) (of_decide_eq_true (by kernel_rfl)) rfl (srAL2_numd C _) (srAL2_numd C _) rfl rfl (srAL2_under C _) ?_
  refine If.mk (fun h => absurd h ((show ¬ ((now.length : Int) = 2) by omega))) (fun _ => ?_)
  refine ifN ?_
  refine LoopG.at (n0 := 25) rfl (loop_up mixed (m := false) (fun r => [(0, eInts now), (1, .ptr 20 0), (2, .ptr 23 0), (3, .ptr 19 0), (4, .ptr 24 0), (15, n' 3), (16, n' r)]) (fun r => srAL2 C (o ++ (srcU d now r).filter (fun _ => true))) (fun _ => True) 3 1 (leb rfl) trivial ?_ ?_ ?_)
  ·exact ⟨⟨_, rfl, Weak.refl _ _, under_eInts _ _⟩, wp rfl (ltb rfl), wp rfl (ltb rfl), wp rfl (ltb rfl), wp rfl (ltb rfl), wp rfl trivial, wp rfl trivial, trivial⟩
  ·show Blks _ _ (srAL2 C (o ++ (srcU d now 0).filter (fun _ => true)))
   rw [srcU_zero, List.filter_nil, List.append_nil]
   exact ⟨bk rfl rfl, bk rfl rfl, bk rfl rfl, bk rfl rfl, bk rfl rfl, bk rfl rfl, bk rfl rfl, bk rfl rfl, bk rfl rfl, bk rfl rfl, bk rfl rfl, bk rfl rfl, bk rfl rfl, bk rfl rfl, bk rfl rfl, bk rfl rfl, bk rfl rfl, bk rfl rfl, bk rfl rfl, bk rfl rfl, bk rfl rfl, bk rfl rfl, bk rfl rfl, bk rfl rfl, bk rfl rfl, trivial⟩
  ·intro r hr _
   refine If.mk (fun h1 => ?_) (fun h1 => ?_)
   ·refine ifY ?_
    refine CallG.cloneI (by omega) (leb rfl) ?_
    refine ex_app _ _ (app_int (List.length_map _) (by omega) rfl) ?_
    have hs := srcU_succ d now r
    have hsl := congrArg List.length hs
    rw [List.length_append] at hsl
    have hle := srcU_le (d := d) (now := now) (show r + 1 ≤ 3 by omega)
    have hfl := List.length_filter_le (fun _ => true) (srcU d now r)
    refine CallG.pre (eInts (now ++ [(r : Int)]) :: [.ptr 20 0, .ptr 23 0, .ptr 19 0, .ptr 24 0]) (srAL2 C (o ++ (srcU d now r).filter (fun _ => true))) (srAL2 C (o ++ (srcU d now (r + 1)).filter (fun _ => true))) (nb true) 1 (.cons (fun H => wk_snoc H) (.cons (fun H => WeakH.refl _ H) (.cons (fun H => WeakH.refl _ H) (.cons (fun H => WeakH.refl _ H) (.cons (fun H => WeakH.refl _ H) .nil)))))
     (srAL2_numd C _) (srAL2_numd C _) rfl (srAL2_marks C _ _) ⟨bk rfl rfl, bk rfl rfl, bk rfl rfl, bk rfl rfl, bk rfl rfl, bk rfl rfl, bk rfl rfl, bk rfl rfl, bk rfl rfl, bk rfl rfl, bk rfl rfl, bk rfl rfl, bk rfl rfl, bk rfl rfl, bk rfl rfl, bk rfl rfl, bk rfl rfl, bk rfl rfl, bk rfl rfl, bk rfl rfl, bk rfl rfl, bk rfl rfl, bk rfl rfl, bk rfl rfl, bk rfl rfl, trivial⟩ rfl ⟨under_eInts _ _, ltb rfl, ltb rfl, ltb rfl, ltb rfl, trivial⟩ rfl (srAL2_under C _) (srAL2_under C _) ?_ ?_
    ·rw [hs, List.filter_append, ← List.append_assoc]
     refine c_srA2 C hC d (by rw [List.length_append, List.length_singleton]; omega) (fun x hx' => ?_) (by rw [List.length_append]; omega)
     rcases List.mem_append.1 hx' with h | h
     ·exact hx x h
     ·rw [List.mem_singleton] at h; omega
    ·refine ifN ?_
     refine Side.mk (fits64 (by omega)) ?_
     exact ⟨leb rfl, rfl, by omega, trivial, ⟨⟨_, rfl, Weak.refl _ _, under_eInts _ _⟩, wp rfl (ltb rfl), wp rfl (ltb rfl), wp rfl (ltb rfl), wp rfl (ltb rfl), wp rfl trivial, wp rfl trivial, trivial⟩, ⟨bk rfl rfl, bk rfl rfl, bk rfl rfl, bk rfl rfl, bk rfl rfl, bk rfl rfl, bk rfl rfl, bk rfl rfl, bk rfl rfl, bk rfl rfl, bk rfl rfl, bk rfl rfl, bk rfl rfl, bk rfl rfl, bk rfl rfl, bk rfl rfl, bk rfl rfl, bk rfl rfl, bk rfl rfl, bk rfl rfl, bk rfl rfl, bk rfl rfl, bk rfl rfl, bk rfl rfl, bk rfl rfl, trivial⟩, ⟨_, rfl, ⟨under_cntC _ _ _, ltb rfl⟩, trivial⟩, ⟨_, rfl, vbBox_under _ _⟩, ⟨_, rfl, trivial⟩, ⟨_, rfl, trivial⟩, ⟨_, rfl, under_lpB ⟨ltb rfl, ltb rfl, ⟨trivial, ltb rfl, trivial⟩, trivial⟩ (ltb rfl)⟩, ⟨_, rfl, ltb rfl, trivial⟩, ⟨_, rfl, trivial, trivial⟩, ⟨_, rfl, trivial, trivial⟩, ⟨_, rfl, trivial⟩, ⟨_, rfl, under_lpB ⟨ltb rfl, ltb rfl, trivial, ⟨trivial, ltb rfl, ltb rfl, trivial⟩, trivial⟩ (ltb rfl)⟩, ⟨_, rfl, ltb rfl, trivial⟩, ⟨_, rfl, ⟨trivial, ltb rfl, ltb rfl, ltb rfl, ltb rfl, trivial⟩, trivial⟩, ⟨_, rfl, trivial, trivial⟩, ⟨_, rfl, trivial, trivial⟩, ⟨_, rfl, trivial⟩, ⟨_, rfl, under_lpB ⟨ltb rfl, ltb rfl, trivial, ⟨trivial, ltb rfl, ltb rfl, trivial⟩, trivial⟩ (ltb rfl)⟩, ⟨_, rfl, ltb rfl, trivial⟩, ⟨_, rfl, ⟨trivial, ltb rfl, ltb rfl, ltb rfl, ltb rfl, trivial⟩, trivial⟩, ⟨_, rfl, trivial, trivial⟩, ⟨_, rfl, trivial, trivial⟩, ⟨_, rfl, trivial⟩, ⟨_, rfl, under_lpB ⟨ltb rfl, ltb rfl, trivial, ⟨trivial, ltb rfl, ltb rfl, trivial⟩, trivial⟩ (ltb rfl)⟩, ⟨_, rfl, ltb rfl, trivial⟩, ⟨_, rfl, ⟨trivial, ltb rfl, ltb rfl, ltb rfl, ltb rfl, trivial⟩, trivial⟩, trivial⟩
   ·refine ifN ?_
    obtain rfl : r = 3 := by omega
    refine ⟨leb rfl, ?_⟩
    exact ⟨.inl rfl, ⟨bk rfl rfl, bk rfl rfl, bk rfl rfl, bk rfl rfl, bk rfl rfl, bk rfl rfl, bk rfl rfl, bk rfl rfl, bk rfl rfl, bk rfl rfl, bk rfl rfl, bk rfl rfl, bk rfl rfl, bk rfl rfl, bk rfl rfl, bk rfl rfl, bk rfl rfl, bk rfl rfl, bk rfl rfl, bk rfl rfl, bk rfl rfl, bk rfl rfl, bk rfl rfl, bk rfl rfl, bk rfl rfl, trivial⟩, FinF.mk _ rfl rfl rfl⟩
noncomputable def srAL3 (C : List (List Int)) (o : List (List Int)) : List (Nat × Blk) :=
 [(0, .box (pgC C) 150), (1, .box [.sl o.length (cntC C o) (.own 3 o.length 2)] 211), (2, vbBox C), (3, .row o.length), (4, .defd), (5, lpB Tryz.f138 .ready [(1, .ptr 0 0), (3, .ptr 1 0), (8, .fn (.func 140) [] [.ptr 2 0])] 4), (6, .box [.yld 5] 109), (7, .box [n' 3] 3), (8, .box [n' 0] 3), (9, .defd), (10, lpB Tryz.f140 .exhausted [(1, .ptr 2 0), (2, .ptr 6 0), (5, n' 0), (11, .fn (.func 179) [] [.ptr 8 0, .ptr 7 0])] 9), (11, .box [.yld 10] 109), (12, .box [.fn (.func 180) [] [.ptr 8 0, .ptr 11 0, .ptr 7 0, .ptr 12 0]] 109), (13, .box [n' 3] 3), (14, .box [n' 1] 3), (15, .defd), (16, lpB Tryz.f140 .exhausted [(1, .ptr 2 0), (2, .ptr 6 0), (5, n' 1), (11, .fn (.func 179) [] [.ptr 14 0, .ptr 13 0])] 15), (17, .box [.yld 16] 109), (18, .box [.fn (.func 180) [] [.ptr 14 0, .ptr 17 0, .ptr 13 0, .ptr 18 0]] 109), (19, .box [n' 3] 3), (20, .box [n' 2] 3), (21, .defd), (22, lpB Tryz.f140 .exhausted [(1, .ptr 2 0), (2, .ptr 6 0), (5, n' 2), (11, .fn (.func 179) [] [.ptr 20 0, .ptr 19 0])] 21), (23, .box [.yld 22] 109), (24, .box [.fn (.func 180) [] [.ptr 20 0, .ptr 23 0, .ptr 19 0, .ptr 24 0]] 109), (25, .box [n' 3] 3), (26, .box [n' 3] 3), (27, .defd), (28, lpB Tryz.f140 .ready [(1, .ptr 2 0), (2, .ptr 6 0), (5, n' 3), (11, .fn (.func 179) [] [.ptr 26 0, .ptr 25 0])] 27), (29, .box [.yld 28] 109), (30, .box [.fn (.func 180) [] [.ptr 26 0, .ptr 29 0, .ptr 25 0, .ptr 30 0]] 109)]
theorem srAL3_numd (C : List (List Int)) (o : List (List Int)) : Numd 0 (srAL3 C o) := ⟨rfl, rfl, rfl, rfl, rfl, rfl, rfl, rfl, rfl, rfl, rfl, rfl, rfl, rfl, rfl, rfl, rfl, rfl, rfl, rfl, rfl, rfl, rfl, rfl, rfl, rfl, rfl, rfl, rfl, rfl, rfl, trivial⟩
theorem srAL3_marks (C : List (List Int)) (o o' : List (List Int)) : MarksL (srAL3 C o) (srAL3 C o') :=
 .cons (fun e => e) (.cons (fun e => by cases e) (.cons (fun e => e) (.cons (fun e => by cases e) (MarksL.same _))))
theorem srAL3_under (C : List (List Int)) (o : List (List Int)) : ∀ q ∈ srAL3 C o, q.2.under 31 :=
 UnderL.mem (l := srAL3 C o) ⟨under_pgC _ _, ⟨⟨under_cntC _ _ _, ltb rfl⟩, trivial⟩, vbBox_under _ _, trivial, trivial, under_lpB ⟨ltb rfl, ltb rfl, ⟨trivial, ltb rfl, trivial⟩, trivial⟩ (ltb rfl), ⟨ltb rfl, trivial⟩, ⟨trivial, trivial⟩, ⟨trivial, trivial⟩, trivial, under_lpB ⟨ltb rfl, ltb rfl, trivial, ⟨trivial, ltb rfl, ltb rfl, trivial⟩, trivial⟩ (ltb rfl), ⟨ltb rfl, trivial⟩, ⟨⟨trivial, ltb rfl, ltb rfl, ltb rfl, ltb rfl, trivial⟩, trivial⟩, ⟨trivial, trivial⟩, ⟨trivial, trivial⟩, trivial, under_lpB ⟨ltb rfl, ltb rfl, trivial, ⟨trivial, ltb rfl, ltb rfl, trivial⟩, trivial⟩ (ltb rfl), ⟨ltb rfl, trivial⟩, ⟨⟨trivial, ltb rfl, ltb rfl, ltb rfl, ltb rfl, trivial⟩, trivial⟩, ⟨trivial, trivial⟩, ⟨trivial, trivial⟩, trivial, under_lpB ⟨ltb rfl, ltb rfl, trivial, ⟨trivial, ltb rfl, ltb rfl, trivial⟩, trivial⟩ (ltb rfl), ⟨ltb rfl, trivial⟩, ⟨⟨trivial, ltb rfl, ltb rfl, ltb rfl, ltb rfl, trivial⟩, trivial⟩, ⟨trivial, trivial⟩, ⟨trivial, trivial⟩, trivial, under_lpB ⟨ltb rfl, ltb rfl, trivial, ⟨trivial, ltb rfl, ltb rfl, trivial⟩, trivial⟩ (ltb rfl), ⟨ltb rfl, trivial⟩, ⟨⟨trivial, ltb rfl, ltb rfl, ltb rfl, ltb rfl, trivial⟩, trivial⟩, trivial⟩
set_option maxHeartbeats 4000000 in
set_option maxRecDepth 100000 in
theorem c_srA03 (C : List (List Int)) (hC : VbOk C) {now : List Int} (hn : now.length = 3) (hl : LineOk now) {o : List (List Int)} (ho : o.length ≤ 1000000) :
  ACall Tryz.prog 180 (eInts now :: [.ptr 26 0, .ptr 29 0, .ptr 25 0, .ptr 30 0]) (hp (srAL3 C o)) (.ret (nb true)) (hp (srAL3 C (o ++ [now].filter (fun _ => true)))) := by
 refine fn_keep (m := false) (fn := Tryz.f180) (c := (Tryz.f180.body).getD .skip) (p := 31) mixed (by kernel_rfl) (by kernel_rfl) (of_decide_eq_true (by kernel_rfl)) rfl (srAL3_numd C _) (srAL3_numd C _) rfl rfl (srAL3_under C _) ?_
 refine If.mk (fun _ => ?_) (fun h => absurd ((show (now.length : Int) = 3 by omega)) h)
 refine ifY ?_
 refine RoundG.intro (m := false) mixed rfl rfl (show ∀ s ∈ (#[12] : Array Tmp), s < 18 by decide) ?_
 refine ⟨rfl, _, rfl, rfl, ?_⟩
 refine RoundG.intro (m := false) mixed rfl rfl (by decide) ?_
 refine ⟨rfl, _, rfl, rfl, ?_⟩
 refine CallG.pure _ (c_vchanges hC hl) ?_
 refine ex_app _ _ (app_cnt (cntC_length C o) (by omega) rfl) ?_
 refine ⟨_, _, rfl, rfl, ?_⟩
 refine ifN ?_
 refine ⟨_, _, rfl, rfl, ?_⟩
 refine ⟨.inl rfl, ?_, FinF.mk _ rfl rfl rfl⟩
 have e : (o ++ [now]).length = o.length + 1 := by simp
 have ef : [now].filter (fun _ => true) = [now] := rfl
 rw [ef]
 refine ⟨bk rfl rfl, ⟨?_, ltb rfl⟩, bk rfl rfl, ⟨?_, ltb rfl⟩, bk rfl rfl, bk rfl rfl, bk rfl rfl, bk rfl rfl, bk rfl rfl, bk rfl rfl, bk rfl rfl, bk rfl rfl, bk rfl rfl, bk rfl rfl, bk rfl rfl, bk rfl rfl, bk rfl rfl, bk rfl rfl, bk rfl rfl, bk rfl rfl, bk rfl rfl, bk rfl rfl, bk rfl rfl, bk rfl rfl, bk rfl rfl, bk rfl rfl, bk rfl rfl, bk rfl rfl, bk rfl rfl, bk rfl rfl, bk rfl rfl, trivial⟩
 ·show _ = some (Blk.box [.sl (o ++ [now]).length (cntC C (o ++ [now])) (.own 3 (o ++ [now]).length 2)] 211)
  rw [cntC_snoc, e]
  rfl
 ·show _ = some (Blk.row (o ++ [now]).length)
  rw [e]
  rfl
set_option maxHeartbeats 4000000 in
set_option maxRecDepth 100000 in
theorem c_srA3 (C : List (List Int)) (hC : VbOk C) : ∀ (d : Nat) {now : List Int} {o : List (List Int)} (_ : now.length + d = 3) (_ : ∀ x ∈ now, 0 ≤ x ∧ x < 3) (_ : o.length + (srchW 3 d now).length ≤ 1000000),
  ACall Tryz.prog 180 (eInts now :: [.ptr 26 0, .ptr 29 0, .ptr 25 0, .ptr 30 0]) (hp (srAL3 C o)) (.ret (nb true)) (hp (srAL3 C (o ++ (srchW 3 d now).filter (fun _ => true))))
 | 0, now, o, hn, hx, hh => c_srA03 C hC hn ⟨by omega, hx⟩ (by omega)
 | d + 1, now, o, hn, hx, hh => by
  rw [← srcU_full] at hh ⊢
  refine fn_keep (m := false) (fn := Tryz.f180) (c := (Tryz.f180.body).getD .skip) (p := 31) mixed (by kernel_rfl) (by kernel_rfl) (of_decide_eq_true (by kernel_rfl)) rfl (srAL3_numd C _) (srAL3_numd C _) rfl rfl (srAL3_under C _) ?_
  refine If.mk (fun h => absurd h ((show ¬ ((now.length : Int) = 3) by omega))) (fun _ => ?_)
  refine ifN ?_
  refine LoopG.at (n0 := 31) rfl (loop_up mixed (m := false) (fun r => [(0, eInts now), (1, .ptr 26 0), (2, .ptr 29 0), (3, .ptr 25 0), (4, .ptr 30 0), (15, n' 3), (16, n' r)]) (fun r => srAL3 C (o ++ (srcU d now r).filter (fun _ => true))) (fun _ => True) 3 1 (leb rfl) trivial ?_ ?_ ?_)
  ·exact ⟨⟨_, rfl, Weak.refl _ _, under_eInts _ _⟩, wp rfl (ltb rfl), wp rfl (ltb rfl), wp rfl (ltb rfl), wp rfl (ltb rfl), wp rfl trivial, wp rfl trivial, trivial⟩
  ·show Blks _ _ (srAL3 C (o ++ (srcU d now 0).filter (fun _ => true)))
   rw [srcU_zero, List.filter_nil, List.append_nil]
   exact ⟨bk rfl rfl, bk rfl rfl, bk rfl rfl, bk rfl rfl, bk rfl rfl, bk rfl rfl, bk rfl rfl, bk rfl rfl, bk rfl rfl, bk rfl rfl, bk rfl rfl, bk rfl rfl, bk rfl rfl, bk rfl rfl, bk rfl rfl, bk rfl rfl, bk rfl rfl, bk rfl rfl, bk rfl rfl, bk rfl rfl, bk rfl rfl, bk rfl rfl, bk rfl rfl, bk rfl rfl, bk rfl rfl, bk rfl rfl, bk rfl rfl, bk rfl rfl, bk rfl rfl, bk rfl rfl, bk rfl rfl, trivial⟩
  ·intro r hr _
   refine If.mk (fun h1 => ?_) (fun h1 => ?_)
   ·refine ifY ?_
    refine CallG.cloneI (by omega) (leb rfl) ?_
    refine ex_app _ _ (app_int (List.length_map _) (by omega) rfl) ?_
    have hs := srcU_succ d now r
    have hsl := congrArg List.length hs
    rw [List.length_append] at hsl
    have hle := srcU_le (d := d) (now := now) (show r + 1 ≤ 3 by omega)
    have hfl := List.length_filter_le (fun _ => true) (srcU d now r)
    refine CallG.pre (eInts (now ++ [(r : Int)]) :: [.ptr 26 0, .ptr 29 0, .ptr 25 0, .ptr 30 0]) (srAL3 C (o ++ (srcU d now r).filter (fun _ => true))) (srAL3 C (o ++ (srcU d now (r + 1)).filter (fun _ => true))) (nb true) 1 (.cons (fun H => wk_snoc H) (.cons (fun H => WeakH.refl _ H) (.cons (fun H => WeakH.refl _ H) (.cons (fun H => WeakH.refl _ H) (.cons (fun H => WeakH.refl _ H) .nil)))))
     (srAL3_numd C _) (srAL3_numd C _) rfl (srAL3_marks C _ _) ⟨bk rfl rfl, bk rfl rfl, bk rfl rfl, bk rfl rfl, bk rfl rfl, bk rfl rfl, bk rfl rfl, bk rfl rfl, bk rfl rfl, bk rfl rfl, bk rfl rfl, bk rfl rfl, bk rfl rfl, bk rfl rfl, bk rfl rfl, bk rfl rfl, bk rfl rfl, bk rfl rfl, bk rfl rfl, bk rfl rfl, bk rfl rfl, bk rfl rfl, bk rfl rfl, bk rfl rfl, bk rfl rfl, bk rfl rfl, bk rfl rfl, bk rfl rfl, bk rfl rfl, bk rfl rfl, bk rfl rfl, trivial⟩ rfl ⟨under_eInts _ _, ltb rfl, ltb rfl, ltb rfl, ltb rfl, trivial⟩ rfl (srAL3_under C _) (srAL3_under C _) ?_ ?_
    ·rw [hs, List.filter_append, ← List.append_assoc]
     refine c_srA3 C hC d (by rw [List.length_append, List.length_singleton]; omega) (fun x hx' => ?_) (by rw [List.length_append]; omega)
     rcases List.mem_append.1 hx' with h | h
     ·exact hx x h
     ·rw [List.mem_singleton] at h; omega
    ·refine ifN ?_
     refine Side.mk (fits64 (by omega)) ?_
     exact ⟨leb rfl, rfl, by omega, trivial, ⟨⟨_, rfl, Weak.refl _ _, under_eInts _ _⟩, wp rfl (ltb rfl), wp rfl (ltb rfl), wp rfl (ltb rfl), wp rfl (ltb rfl), wp rfl trivial, wp rfl trivial, trivial⟩, ⟨bk rfl rfl, bk rfl rfl, bk rfl rfl, bk rfl rfl, bk rfl rfl, bk rfl rfl, bk rfl rfl, bk rfl rfl, bk rfl rfl, bk rfl rfl, bk rfl rfl, bk rfl rfl, bk rfl rfl, bk rfl rfl, bk rfl rfl, bk rfl rfl, bk rfl rfl, bk rfl rfl, bk rfl rfl, bk rfl rfl, bk rfl rfl, bk rfl rfl, bk rfl rfl, bk rfl rfl, bk rfl rfl, bk rfl rfl, bk rfl rfl, bk rfl rfl, bk rfl rfl, bk rfl rfl, bk rfl rfl, trivial⟩, ⟨_, rfl, ⟨under_cntC _ _ _, ltb rfl⟩, trivial⟩, ⟨_, rfl, vbBox_under _ _⟩, ⟨_, rfl, trivial⟩, ⟨_, rfl, trivial⟩, ⟨_, rfl, under_lpB ⟨ltb rfl, ltb rfl, ⟨trivial, ltb rfl, trivial⟩, trivial⟩ (ltb rfl)⟩, ⟨_, rfl, ltb rfl, trivial⟩, ⟨_, rfl, trivial, trivial⟩, ⟨_, rfl, trivial, trivial⟩, ⟨_, rfl, trivial⟩, ⟨_, rfl, under_lpB ⟨ltb rfl, ltb rfl, trivial, ⟨trivial, ltb rfl, ltb rfl, trivial⟩, trivial⟩ (ltb rfl)⟩, ⟨_, rfl, ltb rfl, trivial⟩, ⟨_, rfl, ⟨trivial, ltb rfl, ltb rfl, ltb rfl, ltb rfl, trivial⟩, trivial⟩, ⟨_, rfl, trivial, trivial⟩, ⟨_, rfl, trivial, trivial⟩, ⟨_, rfl, trivial⟩, ⟨_, rfl, under_lpB ⟨ltb rfl, ltb rfl, trivial, ⟨trivial, ltb rfl, ltb rfl, trivial⟩, trivial⟩ (ltb rfl)⟩, ⟨_, rfl, ltb rfl, trivial⟩, ⟨_, rfl, ⟨trivial, ltb rfl, ltb rfl, ltb rfl, ltb rfl, trivial⟩, trivial⟩, ⟨_, rfl, trivial, trivial⟩, ⟨_, rfl, trivial, trivial⟩, ⟨_, rfl, trivial⟩, ⟨_, rfl, under_lpB ⟨ltb rfl, ltb rfl, trivial, ⟨trivial, ltb rfl, ltb rfl, trivial⟩, trivial⟩ (ltb rfl)⟩, ⟨_, rfl, ltb rfl, trivial⟩, ⟨_, rfl, ⟨trivial, ltb rfl, ltb rfl, ltb rfl, ltb rfl, trivial⟩, trivial⟩, ⟨_, rfl, trivial, trivial⟩, ⟨_, rfl, trivial, trivial⟩, ⟨_, rfl, trivial⟩, ⟨_, rfl, under_lpB ⟨ltb rfl, ltb rfl, trivial, ⟨trivial, ltb rfl, ltb rfl, trivial⟩, trivial⟩ (ltb rfl)⟩, ⟨_, rfl, ltb rfl, trivial⟩, ⟨_, rfl, ⟨trivial, ltb rfl, ltb rfl, ltb rfl, ltb rfl, trivial⟩, trivial⟩, trivial⟩
   ·refine ifN ?_
    obtain rfl : r = 3 := by omega
    refine ⟨leb rfl, ?_⟩
    exact ⟨.inl rfl, ⟨bk rfl rfl, bk rfl rfl, bk rfl rfl, bk rfl rfl, bk rfl rfl, bk rfl rfl, bk rfl rfl, bk rfl rfl, bk rfl rfl, bk rfl rfl, bk rfl rfl, bk rfl rfl, bk rfl rfl, bk rfl rfl, bk rfl rfl, bk rfl rfl, bk rfl rfl, bk rfl rfl, bk rfl rfl, bk rfl rfl, bk rfl rfl, bk rfl rfl, bk rfl rfl, bk rfl rfl, bk rfl rfl, bk rfl rfl, bk rfl rfl, bk rfl rfl, bk rfl rfl, bk rfl rfl, bk rfl rfl, trivial⟩, FinF.mk _ rfl rfl rfl⟩
noncomputable def srAL4 (C : List (List Int)) (o : List (List Int)) : List (Nat × Blk) :=
 [(0, .box (pgC C) 150), (1, .box [.sl o.length (cntC C o) (.own 3 o.length 2)] 211), (2, vbBox C), (3, .row o.length), (4, .defd), (5, lpB Tryz.f138 .ready [(1, .ptr 0 0), (3, .ptr 1 0), (8, .fn (.func 140) [] [.ptr 2 0])] 4), (6, .box [.yld 5] 109), (7, .box [n' 3] 3), (8, .box [n' 0] 3), (9, .defd), (10, lpB Tryz.f140 .exhausted [(1, .ptr 2 0), (2, .ptr 6 0), (5, n' 0), (11, .fn (.func 179) [] [.ptr 8 0, .ptr 7 0])] 9), (11, .box [.yld 10] 109), (12, .box [.fn (.func 180) [] [.ptr 8 0, .ptr 11 0, .ptr 7 0, .ptr 12 0]] 109), (13, .box [n' 3] 3), (14, .box [n' 1] 3), (15, .defd), (16, lpB Tryz.f140 .exhausted [(1, .ptr 2 0), (2, .ptr 6 0), (5, n' 1), (11, .fn (.func 179) [] [.ptr 14 0, .ptr 13 0])] 15), (17, .box [.yld 16] 109), (18, .box [.fn (.func 180) [] [.ptr 14 0, .ptr 17 0, .ptr 13 0, .ptr 18 0]] 109), (19, .box [n' 3] 3), (20, .box [n' 2] 3), (21, .defd), (22, lpB Tryz.f140 .exhausted [(1, .ptr 2 0), (2, .ptr 6 0), (5, n' 2), (11, .fn (.func 179) [] [.ptr 20 0, .ptr 19 0])] 21), (23, .box [.yld 22] 109), (24, .box [.fn (.func 180) [] [.ptr 20 0, .ptr 23 0, .ptr 19 0, .ptr 24 0]] 109), (25, .box [n' 3] 3), (26, .box [n' 3] 3), (27, .defd), (28, lpB Tryz.f140 .exhausted [(1, .ptr 2 0), (2, .ptr 6 0), (5, n' 3), (11, .fn (.func 179) [] [.ptr 26 0, .ptr 25 0])] 27), (29, .box [.yld 28] 109), (30, .box [.fn (.func 180) [] [.ptr 26 0, .ptr 29 0, .ptr 25 0, .ptr 30 0]] 109), (31, .box [n' 3] 3), (32, .box [n' 4] 3), (33, .defd), (34, lpB Tryz.f140 .ready [(1, .ptr 2 0), (2, .ptr 6 0), (5, n' 4), (11, .fn (.func 179) [] [.ptr 32 0, .ptr 31 0])] 33), (35, .box [.yld 34] 109), (36, .box [.fn (.func 180) [] [.ptr 32 0, .ptr 35 0, .ptr 31 0, .ptr 36 0]] 109)]
theorem srAL4_numd (C : List (List Int)) (o : List (List Int)) : Numd 0 (srAL4 C o) := ⟨rfl, rfl, rfl, rfl, rfl, rfl, rfl, rfl, rfl, rfl, rfl, rfl, rfl, rfl, rfl, rfl, rfl, rfl, rfl, rfl, rfl, rfl, rfl, rfl, rfl, rfl, rfl, rfl, rfl, rfl, rfl, rfl, rfl, rfl, rfl, rfl, rfl, trivial⟩
theorem srAL4_marks (C : List (List Int)) (o o' : List (List Int)) : MarksL (srAL4 C o) (srAL4 C o') :=
 .cons (fun e => e) (.cons (fun e => by cases e) (.cons (fun e => e) (.cons (fun e => by cases e) (MarksL.same _))))
theorem srAL4_under (C : List (List Int)) (o : List (List Int)) : ∀ q ∈ srAL4 C o, q.2.under 37 :=
 UnderL.mem (l := srAL4 C o) ⟨under_pgC _ _, ⟨⟨under_cntC _ _ _, ltb rfl⟩, trivial⟩, vbBox_under _ _, trivial, trivial, under_lpB ⟨ltb rfl, ltb rfl, ⟨trivial, ltb rfl, trivial⟩, trivial⟩ (ltb rfl), ⟨ltb rfl, trivial⟩, ⟨trivial, trivial⟩, ⟨trivial, trivial⟩, trivial, under_lpB ⟨ltb rfl, ltb rfl, trivial, ⟨trivial, ltb rfl, ltb rfl, trivial⟩, trivial⟩ (ltb rfl), ⟨ltb rfl, trivial⟩, ⟨⟨trivial, ltb rfl, ltb rfl, ltb rfl, ltb rfl, trivial⟩, trivial⟩, ⟨trivial, trivial⟩, ⟨trivial, trivial⟩, trivial, under_lpB ⟨ltb rfl, ltb rfl, trivial, ⟨trivial, ltb rfl, ltb rfl, trivial⟩, trivial⟩ (ltb rfl), ⟨ltb rfl, trivial⟩, ⟨⟨trivial, ltb rfl, ltb rfl, ltb rfl, ltb rfl, trivial⟩, trivial⟩, ⟨trivial, trivial⟩, ⟨trivial, trivial⟩, trivial, under_lpB ⟨ltb rfl, ltb rfl, trivial, ⟨trivial, ltb rfl, ltb rfl, trivial⟩, trivial⟩ (ltb rfl), ⟨ltb rfl, trivial⟩, ⟨⟨trivial, ltb rfl, ltb rfl, ltb rfl, ltb rfl, trivial⟩, trivial⟩, ⟨trivial, trivial⟩, ⟨trivial, trivial⟩, trivial, under_lpB ⟨ltb rfl, ltb rfl, trivial, ⟨trivial, ltb rfl, ltb rfl, trivial⟩, trivial⟩ (ltb rfl), ⟨ltb rfl, trivial⟩, ⟨⟨trivial, ltb rfl, ltb rfl, ltb rfl, ltb rfl, trivial⟩, trivial⟩, ⟨trivial, trivial⟩, ⟨trivial, trivial⟩, trivial, under_lpB ⟨ltb rfl, ltb rfl, trivial, ⟨trivial, ltb rfl, ltb rfl, trivial⟩, trivial⟩ (ltb rfl), ⟨ltb rfl, trivial⟩, ⟨⟨trivial, ltb rfl, ltb rfl, ltb rfl, ltb rfl, trivial⟩, trivial⟩, trivial⟩
set_option maxHeartbeats 4000000 in
set_option maxRecDepth 100000 in
theorem c_srA04 (C : List (List Int)) (hC : VbOk C) {now : List Int} (hn : now.length = 4) (hl : LineOk now) {o : List (List Int)} (ho : o.length ≤ 1000000) :
  ACall Tryz.prog 180 (eInts now :: [.ptr 32 0, .ptr 35 0, .ptr 31 0, .ptr 36 0]) (hp (srAL4 C o)) (.ret (nb true)) (hp (srAL4 C (o ++ [now].filter (fun _ => true)))) := by
 refine fn_keep (m := false) (fn := Tryz.f180) (c := (Tryz.f180.body).getD .skip) (p := 37) mixed (by kernel_rfl) (by kernel_rfl) (of_decide_eq_true (by kernel_rfl)) rfl (srAL4_numd C _) (srAL4_numd C _) rfl rfl (srAL4_under C _) ?_
 refine If.mk (fun _ => ?_) (fun h => absurd ((show (now.length : Int) = 4 by omega)) h)
 refine ifY ?_
 refine RoundG.intro (m := false) mixed rfl rfl (show ∀ s ∈ (#[12] : Array Tmp), s < 18 by decide) ?_
 refine ⟨rfl, _, rfl, rfl, ?_⟩
 refine RoundG.intro (m := false) mixed rfl rfl (by decide) ?_
 refine ⟨rfl, _, rfl, rfl, ?_⟩
 refine CallG.pure _ (c_vchanges hC hl) ?_
 refine ex_app _ _ (app_cnt (cntC_length C o) (by omega) rfl) ?_
 refine ⟨_, _, rfl, rfl, ?_⟩
 refine ifN ?_
 refine ⟨_, _, rfl, rfl, ?_⟩
 refine ⟨.inl rfl, ?_, FinF.mk _ rfl rfl rfl⟩
 have e : (o ++ [now]).length = o.length + 1 := by simp
 have ef : [now].filter (fun _ => true) = [now] := rfl
 rw [ef]
 refine ⟨bk rfl rfl, ⟨?_, ltb rfl⟩, bk rfl rfl, ⟨?_, ltb rfl⟩, bk rfl rfl, bk rfl rfl, bk rfl rfl, bk rfl rfl, bk rfl rfl, bk rfl rfl, bk rfl rfl, bk rfl rfl, bk rfl rfl, bk rfl rfl, bk rfl rfl, bk rfl rfl, bk rfl rfl, bk rfl rfl, bk rfl rfl, bk rfl rfl, bk rfl rfl, bk rfl rfl, bk rfl rfl, bk rfl rfl, bk rfl rfl, bk rfl rfl, bk rfl rfl, bk rfl rfl, bk rfl rfl, bk rfl rfl, bk rfl rfl, bk rfl rfl, bk rfl rfl, bk rfl rfl, bk rfl rfl, bk rfl rfl, bk rfl rfl, trivial⟩
 ·show _ = some (Blk.box [.sl (o ++ [now]).length (cntC C (o ++ [now])) (.own 3 (o ++ [now]).length 2)] 211)
  rw [cntC_snoc, e]
  rfl
 ·show _ = some (Blk.row (o ++ [now]).length)
  rw [e]
  rfl
set_option maxHeartbeats 4000000 in
set_option maxRecDepth 100000 in
theorem c_srA4 (C : List (List Int)) (hC : VbOk C) : ∀ (d : Nat) {now : List Int} {o : List (List Int)} (_ : now.length + d = 4) (_ : ∀ x ∈ now, 0 ≤ x ∧ x < 3) (_ : o.length + (srchW 3 d now).length ≤ 1000000),
  ACall Tryz.prog 180 (eInts now :: [.ptr 32 0, .ptr 35 0, .ptr 31 0, .ptr 36 0]) (hp (srAL4 C o)) (.ret (nb true)) (hp (srAL4 C (o ++ (srchW 3 d now).filter (fun _ => true))))
 | 0, now, o, hn, hx, hh => c_srA04 C hC hn ⟨by omega, hx⟩ (by omega)
 | d + 1, now, o, hn, hx, hh => by
  rw [← srcU_full] at hh ⊢
  refine fn_keep (m := false) (fn := Tryz.f180) (c := (Tryz.f180.body).getD .skip) (p := 37) mixed (by kernel_rfl) (by kernel_rfl) (of_decide_eq_true (by kernel_rfl)) rfl (srAL4_numd C _) (srAL4_numd C _) rfl rfl (srAL4_under C _) ?_
  refine If.mk (fun h => absurd h ((show ¬ ((now.length : Int) = 4) by omega))) (fun _ => ?_)
  refine ifN ?_
  refine LoopG.at (n0 := 37) rfl (loop_up mixed (m := false) (fun r => [(0, eInts now), (1, .ptr 32 0), (2, .ptr 35 0), (3, .ptr 31 0), (4, .ptr 36 0), (15, n' 3), (16, n' r)]) (fun r => srAL4 C (o ++ (srcU d now r).filter (fun _ => true))) (fun _ => True) 3 1 (leb rfl) trivial ?_ ?_ ?_)
  ·exact ⟨⟨_, rfl, Weak.refl _ _, under_eInts _ _⟩, wp rfl (ltb rfl), wp rfl (ltb rfl), wp rfl (ltb rfl), wp rfl (ltb rfl), wp rfl trivial, wp rfl trivial, trivial⟩
  ·show Blks _ _ (srAL4 C (o ++ (srcU d now 0).filter (fun _ => true)))
   rw [srcU_zero, List.filter_nil, List.append_nil]
   exact ⟨bk rfl rfl, bk rfl rfl, bk rfl rfl, bk rfl rfl, bk rfl rfl, bk rfl rfl, bk rfl rfl, bk rfl rfl, bk rfl rfl, bk rfl rfl, bk rfl rfl, bk rfl rfl, bk rfl rfl, bk rfl rfl, bk rfl rfl, bk rfl rfl, bk rfl rfl, bk rfl rfl, bk rfl rfl, bk rfl rfl, bk rfl rfl, bk rfl rfl, bk rfl rfl, bk rfl rfl, bk rfl rfl, bk rfl rfl, bk rfl rfl, bk rfl rfl, bk rfl rfl, bk rfl rfl, bk rfl rfl, bk rfl rfl, bk rfl rfl, bk rfl rfl, bk rfl rfl, bk rfl rfl, bk rfl rfl, trivial⟩
  ·intro r hr _
   refine If.mk (fun h1 => ?_) (fun h1 => ?_)
   ·refine ifY ?_
    refine CallG.cloneI (by omega) (leb rfl) ?_
    refine ex_app _ _ (app_int (List.length_map _) (by omega) rfl) ?_
    have hs := srcU_succ d now r
    have hsl := congrArg List.length hs
    rw [List.length_append] at hsl
    have hle := srcU_le (d := d) (now := now) (show r + 1 ≤ 3 by omega)
    have hfl := List.length_filter_le (fun _ => true) (srcU d now r)
    refine CallG.pre (eInts (now ++ [(r : Int)]) :: [.ptr 32 0, .ptr 35 0, .ptr 31 0, .ptr 36 0]) (srAL4 C (o ++ (srcU d now r).filter (fun _ => true))) (srAL4 C (o ++ (srcU d now (r + 1)).filter (fun _ => true))) (nb true) 1 (.cons (fun H => wk_snoc H) (.cons (fun H => WeakH.refl _ H) (.cons (fun H => WeakH.refl _ H) (.cons (fun H => WeakH.refl _ H) (.cons (fun H => WeakH.refl _ H) .nil)))))
     (srAL4_numd C _) (srAL4_numd C _) rfl (srAL4_marks C _ _) ⟨bk rfl rfl, bk rfl rfl, bk rfl rfl, bk rfl rfl, bk rfl rfl, bk rfl rfl, bk rfl rfl, bk rfl rfl, bk rfl rfl, bk rfl rfl, bk rfl rfl, bk rfl rfl, bk rfl rfl, bk rfl rfl, bk rfl rfl, bk rfl rfl, bk rfl rfl, bk rfl rfl, bk rfl rfl, bk rfl rfl, bk rfl rfl, bk rfl rfl, bk rfl rfl, bk rfl rfl, bk rfl rfl, bk rfl rfl, bk rfl rfl, bk rfl rfl, bk rfl rfl, bk rfl rfl, bk rfl rfl, bk rfl rfl, bk rfl rfl, bk rfl rfl, bk rfl rfl, bk rfl rfl, bk rfl rfl, trivial⟩ rfl ⟨under_eInts _ _, ltb rfl, ltb rfl, ltb rfl, ltb rfl, trivial⟩ rfl (srAL4_under C _) (srAL4_under C _) ?_ ?_
    ·rw [hs, List.filter_append, ← List.append_assoc]
     refine c_srA4 C hC d (by rw [List.length_append, List.length_singleton]; omega) (fun x hx' => ?_) (by rw [List.length_append]; omega)
     rcases List.mem_append.1 hx' with h | h
     ·exact hx x h
     ·rw [List.mem_singleton] at h; omega
    ·refine ifN ?_
     refine Side.mk (fits64 (by omega)) ?_
     exact ⟨leb rfl, rfl, by omega, trivial, ⟨⟨_, rfl, Weak.refl _ _, under_eInts _ _⟩, wp rfl (ltb rfl), wp rfl (ltb rfl), wp rfl (ltb rfl), wp rfl (ltb rfl), wp rfl trivial, wp rfl trivial, trivial⟩, ⟨bk rfl rfl, bk rfl rfl, bk rfl rfl, bk rfl rfl, bk rfl rfl, bk rfl rfl, bk rfl rfl, bk rfl rfl, bk rfl rfl, bk rfl rfl, bk rfl rfl, bk rfl rfl, bk rfl rfl, bk rfl rfl, bk rfl rfl, bk rfl rfl, bk rfl rfl, bk rfl rfl, bk rfl rfl, bk rfl rfl, bk rfl rfl, bk rfl rfl, bk rfl rfl, bk rfl rfl, bk rfl rfl, bk rfl rfl, bk rfl rfl, bk rfl rfl, bk rfl rfl, bk rfl rfl, bk rfl rfl, bk rfl rfl, bk rfl rfl, bk rfl rfl, bk rfl rfl, bk rfl rfl, bk rfl rfl, trivial⟩, ⟨_, rfl, ⟨under_cntC _ _ _, ltb rfl⟩, trivial⟩, ⟨_, rfl, vbBox_under _ _⟩, ⟨_, rfl, trivial⟩, ⟨_, rfl, trivial⟩, ⟨_, rfl, under_lpB ⟨ltb rfl, ltb rfl, ⟨trivial, ltb rfl, trivial⟩, trivial⟩ (ltb rfl)⟩, ⟨_, rfl, ltb rfl, trivial⟩, ⟨_, rfl, trivial, trivial⟩, ⟨_, rfl, trivial, trivial⟩, ⟨_, rfl, trivial⟩, ⟨_, rfl, under_lpB ⟨ltb rfl, ltb rfl, trivial, ⟨trivial, ltb rfl, ltb rfl, trivial⟩, trivial⟩ (ltb rfl)⟩, ⟨_, rfl, ltb rfl, trivial⟩, ⟨_, rfl, ⟨trivial, ltb rfl, ltb rfl, ltb rfl, ltb rfl, trivial⟩, trivial⟩, ⟨_, rfl, trivial, trivial⟩, ⟨_, rfl, trivial, trivial⟩, ⟨_, rfl, trivial⟩, ⟨_, rfl, under_lpB ⟨ltb rfl, ltb rfl, trivial, ⟨trivial, ltb rfl, ltb rfl, trivial⟩, trivial⟩ (ltb rfl)⟩, ⟨_, rfl, ltb rfl, trivial⟩, ⟨_, rfl, ⟨trivial, ltb rfl, ltb rfl, ltb rfl, ltb rfl, trivial⟩, trivial⟩, ⟨_, rfl, trivial, trivial⟩, ⟨_, rfl, trivial, trivial⟩, ⟨_, rfl, trivial⟩, ⟨_, rfl, under_lpB ⟨ltb rfl, ltb rfl, trivial, ⟨trivial, ltb rfl, ltb rfl, trivial⟩, trivial⟩ (ltb rfl)⟩, ⟨_, rfl, ltb rfl, trivial⟩, ⟨_, rfl, ⟨trivial, ltb rfl, ltb rfl, ltb rfl, ltb rfl, trivial⟩, trivial⟩, ⟨_, rfl, trivial, trivial⟩, ⟨_, rfl, trivial, trivial⟩, ⟨_, rfl, trivial⟩, ⟨_, rfl, under_lpB ⟨ltb rfl, ltb rfl, trivial, ⟨trivial, ltb rfl, ltb rfl, trivial⟩, trivial⟩ (ltb rfl)⟩, ⟨_, rfl, ltb rfl, trivial⟩, ⟨_, rfl, ⟨trivial, ltb rfl, ltb rfl, ltb rfl, ltb rfl, trivial⟩, trivial⟩, ⟨_, rfl, trivial, trivial⟩, ⟨_, rfl, trivial, trivial⟩, ⟨_, rfl, trivial⟩, ⟨_, rfl, under_lpB ⟨ltb rfl, ltb rfl, trivial, ⟨trivial, ltb rfl, ltb rfl, trivial⟩, trivial⟩ (ltb rfl)⟩, ⟨_, rfl, ltb rfl, trivial⟩, ⟨_, rfl, ⟨trivial, ltb rfl, ltb rfl, ltb rfl, ltb rfl, trivial⟩, trivial⟩, trivial⟩
   ·refine ifN ?_
    obtain rfl : r = 3 := by omega
    refine ⟨leb rfl, ?_⟩
    exact ⟨.inl rfl, ⟨bk rfl rfl, bk rfl rfl, bk rfl rfl, bk rfl rfl, bk rfl rfl, bk rfl rfl, bk rfl rfl, bk rfl rfl, bk rfl rfl, bk rfl rfl, bk rfl rfl, bk rfl rfl, bk rfl rfl, bk rfl rfl, bk rfl rfl, bk rfl rfl, bk rfl rfl, bk rfl rfl, bk rfl rfl, bk rfl rfl, bk rfl rfl, bk rfl rfl, bk rfl rfl, bk rfl rfl, bk rfl rfl, bk rfl rfl, bk rfl rfl, bk rfl rfl, bk rfl rfl, bk rfl rfl, bk rfl rfl, bk rfl rfl, bk rfl rfl, bk rfl rfl, bk rfl rfl, bk rfl rfl, bk rfl rfl, trivial⟩, FinF.mk _ rfl rfl rfl⟩
noncomputable def srAT0 (C : List (List Int)) (o : List (List Int)) : List (Nat × Blk) :=
 [(0, .box (pgC C) 150), (1, .box [.sl o.length (cntC C o) (.own 3 o.length 2)] 211), (2, vbBox C), (3, .row o.length), (4, .defd), (5, lpB Tryz.f138 .ready [(1, .ptr 0 0), (3, .ptr 1 0), (8, .fn (.func 140) [] [.ptr 2 0])] 4), (6, .box [.yld 5] 109), (7, .box [n' 3] 3), (8, .box [n' 0] 3), (9, .defd), (10, lpB Tryz.f140 .exhausted [(1, .ptr 2 0), (2, .ptr 6 0), (5, n' 0), (11, .fn (.func 179) [] [.ptr 8 0, .ptr 7 0])] 9), (11, .box [.yld 10] 109), (12, .box [.fn (.func 180) [] [.ptr 8 0, .ptr 11 0, .ptr 7 0, .ptr 12 0]] 109)]
noncomputable def srAT1 (C : List (List Int)) (o : List (List Int)) : List (Nat × Blk) :=
 [(0, .box (pgC C) 150), (1, .box [.sl o.length (cntC C o) (.own 3 o.length 2)] 211), (2, vbBox C), (3, .row o.length), (4, .defd), (5, lpB Tryz.f138 .ready [(1, .ptr 0 0), (3, .ptr 1 0), (8, .fn (.func 140) [] [.ptr 2 0])] 4), (6, .box [.yld 5] 109), (7, .box [n' 3] 3), (8, .box [n' 0] 3), (9, .defd), (10, lpB Tryz.f140 .exhausted [(1, .ptr 2 0), (2, .ptr 6 0), (5, n' 0), (11, .fn (.func 179) [] [.ptr 8 0, .ptr 7 0])] 9), (11, .box [.yld 10] 109), (12, .box [.fn (.func 180) [] [.ptr 8 0, .ptr 11 0, .ptr 7 0, .ptr 12 0]] 109), (13, .box [n' 3] 3), (14, .box [n' 1] 3), (15, .defd), (16, lpB Tryz.f140 .exhausted [(1, .ptr 2 0), (2, .ptr 6 0), (5, n' 1), (11, .fn (.func 179) [] [.ptr 14 0, .ptr 13 0])] 15), (17, .box [.yld 16] 109), (18, .box [.fn (.func 180) [] [.ptr 14 0, .ptr 17 0, .ptr 13 0, .ptr 18 0]] 109)]
noncomputable def srAT2 (C : List (List Int)) (o : List (List Int)) : List (Nat × Blk) :=
 [(0, .box (pgC C) 150), (1, .box [.sl o.length (cntC C o) (.own 3 o.length 2)] 211), (2, vbBox C), (3, .row o.length), (4, .defd), (5, lpB Tryz.f138 .ready [(1, .ptr 0 0), (3, .ptr 1 0), (8, .fn (.func 140) [] [.ptr 2 0])] 4), (6, .box [.yld 5] 109), (7, .box [n' 3] 3), (8, .box [n' 0] 3), (9, .defd), (10, lpB Tryz.f140 .exhausted [(1, .ptr 2 0), (2, .ptr 6 0), (5, n' 0), (11, .fn (.func 179) [] [.ptr 8 0, .ptr 7 0])] 9), (11, .box [.yld 10] 109), (12, .box [.fn (.func 180) [] [.ptr 8 0, .ptr 11 0, .ptr 7 0, .ptr 12 0]] 109), (13, .box [n' 3] 3), (14, .box [n' 1] 3), (15, .defd), (16, lpB Tryz.f140 .exhausted [(1, .ptr 2 0), (2, .ptr 6 0), (5, n' 1), (11, .fn (.func 179) [] [.ptr 14 0, .ptr 13 0])] 15), (17, .box [.yld 16] 109), (18, .box [.fn (.func 180) [] [.ptr 14 0, .ptr 17 0, .ptr 13 0, .ptr 18 0]] 109), (19, .box [n' 3] 3), (20, .box [n' 2] 3), (21, .defd), (22, lpB Tryz.f140 .exhausted [(1, .ptr 2 0), (2, .ptr 6 0), (5, n' 2), (11, .fn (.func 179) [] [.ptr 20 0, .ptr 19 0])] 21), (23, .box [.yld 22] 109), (24, .box [.fn (.func 180) [] [.ptr 20 0, .ptr 23 0, .ptr 19 0, .ptr 24 0]] 109)]
noncomputable def srAT3 (C : List (List Int)) (o : List (List Int)) : List (Nat × Blk) :=
 [(0, .box (pgC C) 150), (1, .box [.sl o.length (cntC C o) (.own 3 o.length 2)] 211), (2, vbBox C), (3, .row o.length), (4, .defd), (5, lpB Tryz.f138 .ready [(1, .ptr 0 0), (3, .ptr 1 0), (8, .fn (.func 140) [] [.ptr 2 0])] 4), (6, .box [.yld 5] 109), (7, .box [n' 3] 3), (8, .box [n' 0] 3), (9, .defd), (10, lpB Tryz.f140 .exhausted [(1, .ptr 2 0), (2, .ptr 6 0), (5, n' 0), (11, .fn (.func 179) [] [.ptr 8 0, .ptr 7 0])] 9), (11, .box [.yld 10] 109), (12, .box [.fn (.func 180) [] [.ptr 8 0, .ptr 11 0, .ptr 7 0, .ptr 12 0]] 109), (13, .box [n' 3] 3), (14, .box [n' 1] 3), (15, .defd), (16, lpB Tryz.f140 .exhausted [(1, .ptr 2 0), (2, .ptr 6 0), (5, n' 1), (11, .fn (.func 179) [] [.ptr 14 0, .ptr 13 0])] 15), (17, .box [.yld 16] 109), (18, .box [.fn (.func 180) [] [.ptr 14 0, .ptr 17 0, .ptr 13 0, .ptr 18 0]] 109), (19, .box [n' 3] 3), (20, .box [n' 2] 3), (21, .defd), (22, lpB Tryz.f140 .exhausted [(1, .ptr 2 0), (2, .ptr 6 0), (5, n' 2), (11, .fn (.func 179) [] [.ptr 20 0, .ptr 19 0])] 21), (23, .box [.yld 22] 109), (24, .box [.fn (.func 180) [] [.ptr 20 0, .ptr 23 0, .ptr 19 0, .ptr 24 0]] 109), (25, .box [n' 3] 3), (26, .box [n' 3] 3), (27, .defd), (28, lpB Tryz.f140 .exhausted [(1, .ptr 2 0), (2, .ptr 6 0), (5, n' 3), (11, .fn (.func 179) [] [.ptr 26 0, .ptr 25 0])] 27), (29, .box [.yld 28] 109), (30, .box [.fn (.func 180) [] [.ptr 26 0, .ptr 29 0, .ptr 25 0, .ptr 30 0]] 109)]
noncomputable def srAT4 (C : List (List Int)) (o : List (List Int)) : List (Nat × Blk) :=
 [(0, .box (pgC C) 150), (1, .box [.sl o.length (cntC C o) (.own 3 o.length 2)] 211), (2, vbBox C), (3, .row o.length), (4, .defd), (5, lpB Tryz.f138 .ready [(1, .ptr 0 0), (3, .ptr 1 0), (8, .fn (.func 140) [] [.ptr 2 0])] 4), (6, .box [.yld 5] 109), (7, .box [n' 3] 3), (8, .box [n' 0] 3), (9, .defd), (10, lpB Tryz.f140 .exhausted [(1, .ptr 2 0), (2, .ptr 6 0), (5, n' 0), (11, .fn (.func 179) [] [.ptr 8 0, .ptr 7 0])] 9), (11, .box [.yld 10] 109), (12, .box [.fn (.func 180) [] [.ptr 8 0, .ptr 11 0, .ptr 7 0, .ptr 12 0]] 109), (13, .box [n' 3] 3), (14, .box [n' 1] 3), (15, .defd), (16, lpB Tryz.f140 .exhausted [(1, .ptr 2 0), (2, .ptr 6 0), (5, n' 1), (11, .fn (.func 179) [] [.ptr 14 0, .ptr 13 0])] 15), (17, .box [.yld 16] 109), (18, .box [.fn (.func 180) [] [.ptr 14 0, .ptr 17 0, .ptr 13 0, .ptr 18 0]] 109), (19, .box [n' 3] 3), (20, .box [n' 2] 3), (21, .defd), (22, lpB Tryz.f140 .exhausted [(1, .ptr 2 0), (2, .ptr 6 0), (5, n' 2), (11, .fn (.func 179) [] [.ptr 20 0, .ptr 19 0])] 21), (23, .box [.yld 22] 109), (24, .box [.fn (.func 180) [] [.ptr 20 0, .ptr 23 0, .ptr 19 0, .ptr 24 0]] 109), (25, .box [n' 3] 3), (26, .box [n' 3] 3), (27, .defd), (28, lpB Tryz.f140 .exhausted [(1, .ptr 2 0), (2, .ptr 6 0), (5, n' 3), (11, .fn (.func 179) [] [.ptr 26 0, .ptr 25 0])] 27), (29, .box [.yld 28] 109), (30, .box [.fn (.func 180) [] [.ptr 26 0, .ptr 29 0, .ptr 25 0, .ptr 30 0]] 109), (31, .box [n' 3] 3), (32, .box [n' 4] 3), (33, .defd), (34, lpB Tryz.f140 .exhausted [(1, .ptr 2 0), (2, .ptr 6 0), (5, n' 4), (11, .fn (.func 179) [] [.ptr 32 0, .ptr 31 0])] 33), (35, .box [.yld 34] 109), (36, .box [.fn (.func 180) [] [.ptr 32 0, .ptr 35 0, .ptr 31 0, .ptr 36 0]] 109)]
theorem freezes_cntC (g : Nat → Option Blk) (C : List (List Int)) : ∀ o : List (List Int), AV.freezes g (cntC C o) = cntC C o
 | [] => rfl
 | x :: o => by
  show AV.freeze g (eInts x) :: AV.freeze g (n' (sumE C x : Nat)) :: AV.freezes g (cntC C o) = _
  rw [freeze_eInts, freezes_cntC g C o]
  rfl
set_option maxHeartbeats 16000000 in
set_option maxRecDepth 100000 in
theorem c_all {C : List (List Int)} (hC : VbOk C) (H : List Blk) : ACall Tryz.prog 138 [ePg C] H (.ret (.sl (linesW 3).length (cntC C (linesW 3)) .unk)) H := by
 refine fn_ruleM (m := false) (fn := Tryz.f138) (c := (Tryz.f138.body).getD .skip) mixed (by kernel_rfl) (by kernel_rfl) (of_decide_eq_true (by kernel_rfl)) ?_ ?_ ?_ H
 ·exact ⟨under_pgC 0 C, trivial⟩
 ·exact ⟨under_cntC _ _ _, trivial⟩
 ·refine CallG.inlineP (m := false) (fn := Tryz.f84) (c := (Tryz.f84.body).getD .skip) mixed (by kernel_rfl) (by kernel_rfl) (of_decide_eq_true (by kernel_rfl)) ?_
  refine .inl ⟨.inl rfl, _, rfl, rfl, ?_⟩
  refine RangeG.ghost ?_
  refine RangeG.box (n := 4) 1 [.sl 0 [] (.own 3 0 2)] 0 (Nat.zero_le _) (Nat.zero_le _) rfl (.cons (Weak.own (r := 3) (g := 0) 2 rfl) (.nil _)) ?_
  refine RangeG.fresh (n0 := 4) [(1, .ptr 0 0), (3, .ptr 1 0), (8, .fn (.func 140) [] [.ptr 2 0])] ((srAL0 C []).take 4) rfl ?_ ?_ ?_
  ·exact ⟨⟨_, rfl, Weak.refl _ _⟩, ⟨_, rfl, Weak.refl _ _⟩, ⟨_, rfl, Weak.refl _ _⟩, trivial⟩
  ·exact ⟨bk rfl rfl, bk rfl rfl, bk rfl rfl, bk rfl rfl, trivial⟩
  refine RangeG.after ?_
  refine RangeG.outer (f := 140) (first := []) (captured := [.ptr 2 0]) rfl rfl rfl ?_
  refine CallG.inlineM (m := false) (fn := Tryz.f140) (c := (Tryz.f140.body).getD .skip) mixed (by kernel_rfl) (by kernel_rfl) (of_decide_eq_true (by kernel_rfl)) ?_
  refine LoopG.round (m := false) mixed ?_
  refine If.mk (fun _ => ?_) (fun h => absurd (by decide) h)
  refine ifY ?_
  refine CallG.inlineP (m := false) (fn := Tryz.f141) (c := (Tryz.f141.body).getD .skip) mixed (by kernel_rfl) (by kernel_rfl) (of_decide_eq_true (by kernel_rfl)) ?_
  refine .inl ⟨.inl rfl, _, rfl, rfl, ?_⟩
  refine RangeG.fresh (n0 := 9) [(1, .ptr 2 0), (2, .ptr 6 0), (5, n' 0), (11, .fn (.func 179) [] [.ptr 8 0, .ptr 7 0])] ((srAL0 C ((linesU 0).filter (fun _ => true))).take 9) rfl ?_ ?_ ?_
  ·exact ⟨⟨_, rfl, Weak.refl _ _⟩, ⟨_, rfl, Weak.refl _ _⟩, ⟨_, rfl, Weak.refl _ _⟩, ⟨_, rfl, Weak.refl _ _⟩, trivial⟩
  ·exact ⟨bk rfl rfl, bk rfl rfl, bk rfl rfl, bk rfl rfl, bk rfl rfl, bk rfl rfl, bk rfl rfl, bk rfl rfl, bk rfl rfl, trivial⟩
  refine RangeG.after ?_
  refine RangeG.outer (f := 179) (first := []) (captured := [.ptr 8 0, .ptr 7 0]) rfl rfl rfl ?_
  refine CallG.inlineM (m := false) (fn := Tryz.f179) (c := (Tryz.f179.body).getD .skip) mixed (by kernel_rfl) (by kernel_rfl) (of_decide_eq_true (by kernel_rfl)) ?_
  refine CallG.pre (eInts [] :: [.ptr 8 0, .ptr 11 0, .ptr 7 0, .ptr 12 0]) (srAL0 C ((linesU 0).filter (fun _ => true))) (srAL0 C ((linesU 1).filter (fun _ => true))) (nb true) 1 (.cons (fun H => wk_nil H) (.cons (fun H => WeakH.refl _ H) (.cons (fun H => WeakH.refl _ H) (.cons (fun H => WeakH.refl _ H) (.cons (fun H => WeakH.refl _ H) .nil)))))
   (srAL0_numd C _) (srAL0_numd C _) rfl (srAL0_marks C _ _) ⟨bk rfl rfl, bk rfl rfl, bk rfl rfl, bk rfl rfl, bk rfl rfl, bk rfl rfl, bk rfl rfl, bk rfl rfl, bk rfl rfl, bk rfl rfl, bk rfl rfl, bk rfl rfl, bk rfl rfl, trivial⟩ rfl ⟨under_eInts _ _, ltb rfl, ltb rfl, ltb rfl, ltb rfl, trivial⟩ rfl (srAL0_under C _) (srAL0_under C _) ?_ ?_
  ·rw [linesU_succ 0, List.filter_append]
   exact c_srA00 C hC rfl ⟨by decide, fun x h => by cases h⟩ (ho := linesF_small (fun _ => true) (by omega))
  refine ⟨.inr rfl, rfl, _, rfl, ?_⟩
  refine ⟨_, _, rfl, (fun e => by cases e), rfl, rfl, [(1, .ptr 2 0), (2, .ptr 6 0), (5, n' 0)], srAT0 C ((linesU 1).filter (fun _ => true)), 13, rfl, ⟨⟨_, rfl, Weak.refl _ _⟩, ⟨_, rfl, Weak.refl _ _⟩, ⟨_, rfl, Weak.refl _ _⟩, trivial⟩, ⟨bk rfl rfl, bk rfl rfl, bk rfl rfl, bk rfl rfl, bk rfl rfl, bk rfl rfl, bk rfl rfl, bk rfl rfl, bk rfl rfl, bk rfl rfl, bk rfl rfl, bk rfl rfl, bk rfl rfl, trivial⟩, ?_⟩
  refine Side.mk (by unfold fitsK; kernel_rfl) ?_
  refine LoopG.round (m := false) mixed ?_
  refine If.mk (fun _ => ?_) (fun h => absurd (by decide) h)
  refine ifY ?_
  refine CallG.inlineP (m := false) (fn := Tryz.f141) (c := (Tryz.f141.body).getD .skip) mixed (by kernel_rfl) (by kernel_rfl) (of_decide_eq_true (by kernel_rfl)) ?_
  refine .inl ⟨.inl rfl, _, rfl, rfl, ?_⟩
  refine RangeG.fresh (n0 := 15) [(1, .ptr 2 0), (2, .ptr 6 0), (5, n' 1), (11, .fn (.func 179) [] [.ptr 14 0, .ptr 13 0])] ((srAL1 C ((linesU 1).filter (fun _ => true))).take 15) rfl ?_ ?_ ?_
  ·exact ⟨⟨_, rfl, Weak.refl _ _⟩, ⟨_, rfl, Weak.refl _ _⟩, ⟨_, rfl, Weak.refl _ _⟩, ⟨_, rfl, Weak.refl _ _⟩, trivial⟩
  ·exact ⟨bk rfl rfl, bk rfl rfl, bk rfl rfl, bk rfl rfl, bk rfl rfl, bk rfl rfl, bk rfl rfl, bk rfl rfl, bk rfl rfl, bk rfl rfl, bk rfl rfl, bk rfl rfl, bk rfl rfl, bk rfl rfl, bk rfl rfl, trivial⟩
  refine RangeG.after ?_
  refine RangeG.outer (f := 179) (first := []) (captured := [.ptr 14 0, .ptr 13 0]) rfl rfl rfl ?_
  refine CallG.inlineM (m := false) (fn := Tryz.f179) (c := (Tryz.f179.body).getD .skip) mixed (by kernel_rfl) (by kernel_rfl) (of_decide_eq_true (by kernel_rfl)) ?_
  refine CallG.pre (eInts [] :: [.ptr 14 0, .ptr 17 0, .ptr 13 0, .ptr 18 0]) (srAL1 C ((linesU 1).filter (fun _ => true))) (srAL1 C ((linesU 2).filter (fun _ => true))) (nb true) 1 (.cons (fun H => wk_nil H) (.cons (fun H => WeakH.refl _ H) (.cons (fun H => WeakH.refl _ H) (.cons (fun H => WeakH.refl _ H) (.cons (fun H => WeakH.refl _ H) .nil)))))
   (srAL1_numd C _) (srAL1_numd C _) rfl (srAL1_marks C _ _) ⟨bk rfl rfl, bk rfl rfl, bk rfl rfl, bk rfl rfl, bk rfl rfl, bk rfl rfl, bk rfl rfl, bk rfl rfl, bk rfl rfl, bk rfl rfl, bk rfl rfl, bk rfl rfl, bk rfl rfl, bk rfl rfl, bk rfl rfl, bk rfl rfl, bk rfl rfl, bk rfl rfl, bk rfl rfl, trivial⟩ rfl ⟨under_eInts _ _, ltb rfl, ltb rfl, ltb rfl, ltb rfl, trivial⟩ rfl (srAL1_under C _) (srAL1_under C _) ?_ ?_
  ·rw [linesU_succ 1, List.filter_append]
   exact c_srA1 C hC 1 (now := []) rfl (fun x h => by cases h) (linesF_small2 (fun _ => true) (by omega))
  refine ⟨.inr rfl, rfl, _, rfl, ?_⟩
  refine ⟨_, _, rfl, (fun e => by cases e), rfl, rfl, [(1, .ptr 2 0), (2, .ptr 6 0), (5, n' 1)], srAT1 C ((linesU 2).filter (fun _ => true)), 19, rfl, ⟨⟨_, rfl, Weak.refl _ _⟩, ⟨_, rfl, Weak.refl _ _⟩, ⟨_, rfl, Weak.refl _ _⟩, trivial⟩, ⟨bk rfl rfl, bk rfl rfl, bk rfl rfl, bk rfl rfl, bk rfl rfl, bk rfl rfl, bk rfl rfl, bk rfl rfl, bk rfl rfl, bk rfl rfl, bk rfl rfl, bk rfl rfl, bk rfl rfl, bk rfl rfl, bk rfl rfl, bk rfl rfl, bk rfl rfl, bk rfl rfl, bk rfl rfl, trivial⟩, ?_⟩
  refine Side.mk (by unfold fitsK; kernel_rfl) ?_
  refine LoopG.round (m := false) mixed ?_
  refine If.mk (fun _ => ?_) (fun h => absurd (by decide) h)
  refine ifY ?_
  refine CallG.inlineP (m := false) (fn := Tryz.f141) (c := (Tryz.f141.body).getD .skip) mixed (by kernel_rfl) (by kernel_rfl) (of_decide_eq_true (by kernel_rfl)) ?_
  refine .inl ⟨.inl rfl, _, rfl, rfl, ?_⟩
  refine RangeG.fresh (n0 := 21) [(1, .ptr 2 0), (2, .ptr 6 0), (5, n' 2), (11, .fn (.func 179) [] [.ptr 20 0, .ptr 19 0])] ((srAL2 C ((linesU 2).filter (fun _ => true))).take 21) rfl ?_ ?_ ?_
  ·exact ⟨⟨_, rfl, Weak.refl _ _⟩, ⟨_, rfl, Weak.refl _ _⟩, ⟨_, rfl, Weak.refl _ _⟩, ⟨_, rfl, Weak.refl _ _⟩, trivial⟩
  ·exact ⟨bk rfl rfl, bk rfl rfl, bk rfl rfl, bk rfl rfl, bk rfl rfl, bk rfl rfl, bk rfl rfl, bk rfl rfl, bk rfl rfl, bk rfl rfl, bk rfl rfl, bk rfl rfl, bk rfl rfl, bk rfl rfl, bk rfl rfl, bk rfl rfl, bk rfl rfl, bk rfl rfl, bk rfl rfl, bk rfl rfl, bk rfl rfl, trivial⟩
  refine RangeG.after ?_
  refine RangeG.outer (f := 179) (first := []) (captured := [.ptr 20 0, .ptr 19 0]) rfl rfl rfl ?_
  refine CallG.inlineM (m := false) (fn := Tryz.f179) (c := (Tryz.f179.body).getD .skip) mixed (by kernel_rfl) (by kernel_rfl) (of_decide_eq_true (by kernel_rfl)) ?_
  refine CallG.pre (eInts [] :: [.ptr 20 0, .ptr 23 0, .ptr 19 0, .ptr 24 0]) (srAL2 C ((linesU 2).filter (fun _ => true))) (srAL2 C ((linesU 3).filter (fun _ => true))) (nb true) 1 (.cons (fun H => wk_nil H) (.cons (fun H => WeakH.refl _ H) (.cons (fun H => WeakH.refl _ H) (.cons (fun H => WeakH.refl _ H) (.cons (fun H => WeakH.refl _ H) .nil)))))
   (srAL2_numd C _) (srAL2_numd C _) rfl (srAL2_marks C _ _) ⟨bk rfl rfl, bk rfl rfl, bk rfl rfl, bk rfl rfl, bk rfl rfl, bk rfl rfl, bk rfl rfl, bk rfl rfl, bk rfl rfl, bk rfl rfl, bk rfl rfl, bk rfl rfl, bk rfl rfl, bk rfl rfl, bk rfl rfl, bk rfl rfl, bk rfl rfl, bk rfl rfl, bk rfl rfl, bk rfl rfl, bk rfl rfl, bk rfl rfl, bk rfl rfl, bk rfl rfl, bk rfl rfl, trivial⟩ rfl ⟨under_eInts _ _, ltb rfl, ltb rfl, ltb rfl, ltb rfl, trivial⟩ rfl (srAL2_under C _) (srAL2_under C _) ?_ ?_
  ·rw [linesU_succ 2, List.filter_append]
   exact c_srA2 C hC 2 (now := []) rfl (fun x h => by cases h) (linesF_small2 (fun _ => true) (by omega))
  refine ⟨.inr rfl, rfl, _, rfl, ?_⟩
  refine ⟨_, _, rfl, (fun e => by cases e), rfl, rfl, [(1, .ptr 2 0), (2, .ptr 6 0), (5, n' 2)], srAT2 C ((linesU 3).filter (fun _ => true)), 25, rfl, ⟨⟨_, rfl, Weak.refl _ _⟩, ⟨_, rfl, Weak.refl _ _⟩, ⟨_, rfl, Weak.refl _ _⟩, trivial⟩, ⟨bk rfl rfl, bk rfl rfl, bk rfl rfl, bk rfl rfl, bk rfl rfl, bk rfl rfl, bk rfl rfl, bk rfl rfl, bk rfl rfl, bk rfl rfl, bk rfl rfl, bk rfl rfl, bk rfl rfl, bk rfl rfl, bk rfl rfl, bk rfl rfl, bk rfl rfl, bk rfl rfl, bk rfl rfl, bk rfl rfl, bk rfl rfl, bk rfl rfl, bk rfl rfl, bk rfl rfl, bk rfl rfl, trivial⟩, ?_⟩
  refine Side.mk (by unfold fitsK; kernel_rfl) ?_
  refine LoopG.round (m := false) mixed ?_
  refine If.mk (fun _ => ?_) (fun h => absurd (by decide) h)
  refine ifY ?_
  refine CallG.inlineP (m := false) (fn := Tryz.f141) (c := (Tryz.f141.body).getD .skip) mixed (by kernel_rfl) (by kernel_rfl) (of_decide_eq_true (by kernel_rfl)) ?_
  refine .inl ⟨.inl rfl, _, rfl, rfl, ?_⟩
  refine RangeG.fresh (n0 := 27) [(1, .ptr 2 0), (2, .ptr 6 0), (5, n' 3), (11, .fn (.func 179) [] [.ptr 26 0, .ptr 25 0])] ((srAL3 C ((linesU 3).filter (fun _ => true))).take 27) rfl ?_ ?_ ?_
  ·exact ⟨⟨_, rfl, Weak.refl _ _⟩, ⟨_, rfl, Weak.refl _ _⟩, ⟨_, rfl, Weak.refl _ _⟩, ⟨_, rfl, Weak.refl _ _⟩, trivial⟩
  ·exact ⟨bk rfl rfl, bk rfl rfl, bk rfl rfl, bk rfl rfl, bk rfl rfl, bk rfl rfl, bk rfl rfl, bk rfl rfl, bk rfl rfl, bk rfl rfl, bk rfl rfl, bk rfl rfl, bk rfl rfl, bk rfl rfl, bk rfl rfl, bk rfl rfl, bk rfl rfl, bk rfl rfl, bk rfl rfl, bk rfl rfl, bk rfl rfl, bk rfl rfl, bk rfl rfl, bk rfl rfl, bk rfl rfl, bk rfl rfl, bk rfl rfl, trivial⟩
  refine RangeG.after ?_
  refine RangeG.outer (f := 179) (first := []) (captured := [.ptr 26 0, .ptr 25 0]) rfl rfl rfl ?_
  refine CallG.inlineM (m := false) (fn := Tryz.f179) (c := (Tryz.f179.body).getD .skip) mixed (by kernel_rfl) (by kernel_rfl) (of_decide_eq_true (by kernel_rfl)) ?_
  refine CallG.pre (eInts [] :: [.ptr 26 0, .ptr 29 0, .ptr 25 0, .ptr 30 0]) (srAL3 C ((linesU 3).filter (fun _ => true))) (srAL3 C ((linesU 4).filter (fun _ => true))) (nb true) 1 (.cons (fun H => wk_nil H) (.cons (fun H => WeakH.refl _ H) (.cons (fun H => WeakH.refl _ H) (.cons (fun H => WeakH.refl _ H) (.cons (fun H => WeakH.refl _ H) .nil)))))
   (srAL3_numd C _) (srAL3_numd C _) rfl (srAL3_marks C _ _) ⟨bk rfl rfl, bk rfl rfl, bk rfl rfl, bk rfl rfl, bk rfl rfl, bk rfl rfl, bk rfl rfl, bk rfl rfl, bk rfl rfl, bk rfl rfl, bk rfl rfl, bk rfl rfl, bk rfl rfl, bk rfl rfl, bk rfl rfl, bk rfl rfl, bk rfl rfl, bk rfl rfl, bk rfl rfl, bk rfl rfl, bk rfl rfl, bk rfl rfl, bk rfl rfl, bk rfl rfl, bk rfl rfl, bk rfl rfl, bk rfl rfl, bk rfl rfl, bk rfl rfl, bk rfl rfl, bk rfl rfl, trivial⟩ rfl ⟨under_eInts _ _, ltb rfl, ltb rfl, ltb rfl, ltb rfl, trivial⟩ rfl (srAL3_under C _) (srAL3_under C _) ?_ ?_
  ·rw [linesU_succ 3, List.filter_append]
   exact c_srA3 C hC 3 (now := []) rfl (fun x h => by cases h) (linesF_small2 (fun _ => true) (by omega))
  refine ⟨.inr rfl, rfl, _, rfl, ?_⟩
  refine ⟨_, _, rfl, (fun e => by cases e), rfl, rfl, [(1, .ptr 2 0), (2, .ptr 6 0), (5, n' 3)], srAT3 C ((linesU 4).filter (fun _ => true)), 31, rfl, ⟨⟨_, rfl, Weak.refl _ _⟩, ⟨_, rfl, Weak.refl _ _⟩, ⟨_, rfl, Weak.refl _ _⟩, trivial⟩, ⟨bk rfl rfl, bk rfl rfl, bk rfl rfl, bk rfl rfl, bk rfl rfl, bk rfl rfl, bk rfl rfl, bk rfl rfl, bk rfl rfl, bk rfl rfl, bk rfl rfl, bk rfl rfl, bk rfl rfl, bk rfl rfl, bk rfl rfl, bk rfl rfl, bk rfl rfl, bk rfl rfl, bk rfl rfl, bk rfl rfl, bk rfl rfl, bk rfl rfl, bk rfl rfl, bk rfl rfl, bk rfl rfl, bk rfl rfl, bk rfl rfl, bk rfl rfl, bk rfl rfl, bk rfl rfl, bk rfl rfl, trivial⟩, ?_⟩
  refine Side.mk (by unfold fitsK; kernel_rfl) ?_
  refine LoopG.round (m := false) mixed ?_
  refine If.mk (fun _ => ?_) (fun h => absurd (by decide) h)
  refine ifY ?_
  refine CallG.inlineP (m := false) (fn := Tryz.f141) (c := (Tryz.f141.body).getD .skip) mixed (by kernel_rfl) (by kernel_rfl) (of_decide_eq_true (by kernel_rfl)) ?_
  refine .inl ⟨.inl rfl, _, rfl, rfl, ?_⟩
  refine RangeG.fresh (n0 := 33) [(1, .ptr 2 0), (2, .ptr 6 0), (5, n' 4), (11, .fn (.func 179) [] [.ptr 32 0, .ptr 31 0])] ((srAL4 C ((linesU 4).filter (fun _ => true))).take 33) rfl ?_ ?_ ?_
  ·exact ⟨⟨_, rfl, Weak.refl _ _⟩, ⟨_, rfl, Weak.refl _ _⟩, ⟨_, rfl, Weak.refl _ _⟩, ⟨_, rfl, Weak.refl _ _⟩, trivial⟩
  ·exact ⟨bk rfl rfl, bk rfl rfl, bk rfl rfl, bk rfl rfl, bk rfl rfl, bk rfl rfl, bk rfl rfl, bk rfl rfl, bk rfl rfl, bk rfl rfl, bk rfl rfl, bk rfl rfl, bk rfl rfl, bk rfl rfl, bk rfl rfl, bk rfl rfl, bk rfl rfl, bk rfl rfl, bk rfl rfl, bk rfl rfl, bk rfl rfl, bk rfl rfl, bk rfl rfl, bk rfl rfl, bk rfl rfl, bk rfl rfl, bk rfl rfl, bk rfl rfl, bk rfl rfl, bk rfl rfl, bk rfl rfl, bk rfl rfl, bk rfl rfl, trivial⟩
  refine RangeG.after ?_
  refine RangeG.outer (f := 179) (first := []) (captured := [.ptr 32 0, .ptr 31 0]) rfl rfl rfl ?_
  refine CallG.inlineM (m := false) (fn := Tryz.f179) (c := (Tryz.f179.body).getD .skip) mixed (by kernel_rfl) (by kernel_rfl) (of_decide_eq_true (by kernel_rfl)) ?_
  refine CallG.pre (eInts [] :: [.ptr 32 0, .ptr 35 0, .ptr 31 0, .ptr 36 0]) (srAL4 C ((linesU 4).filter (fun _ => true))) (srAL4 C ((linesU 5).filter (fun _ => true))) (nb true) 1 (.cons (fun H => wk_nil H) (.cons (fun H => WeakH.refl _ H) (.cons (fun H => WeakH.refl _ H) (.cons (fun H => WeakH.refl _ H) (.cons (fun H => WeakH.refl _ H) .nil)))))
   (srAL4_numd C _) (srAL4_numd C _) rfl (srAL4_marks C _ _) ⟨bk rfl rfl, bk rfl rfl, bk rfl rfl, bk rfl rfl, bk rfl rfl, bk rfl rfl, bk rfl rfl, bk rfl rfl, bk rfl rfl, bk rfl rfl, bk rfl rfl, bk rfl rfl, bk rfl rfl, bk rfl rfl, bk rfl rfl, bk rfl rfl, bk rfl rfl, bk rfl rfl, bk rfl rfl, bk rfl rfl, bk rfl rfl, bk rfl rfl, bk rfl rfl, bk rfl rfl, bk rfl rfl, bk rfl rfl, bk rfl rfl, bk rfl rfl, bk rfl rfl, bk rfl rfl, bk rfl rfl, bk rfl rfl, bk rfl rfl, bk rfl rfl, bk rfl rfl, bk rfl rfl, bk rfl rfl, trivial⟩ rfl ⟨under_eInts _ _, ltb rfl, ltb rfl, ltb rfl, ltb rfl, trivial⟩ rfl (srAL4_under C _) (srAL4_under C _) ?_ ?_
  ·rw [linesU_succ 4, List.filter_append]
   exact c_srA4 C hC 4 (now := []) rfl (fun x h => by cases h) (linesF_small2 (fun _ => true) (by omega))
  refine ⟨.inr rfl, rfl, _, rfl, ?_⟩
  refine ⟨_, _, rfl, (fun e => by cases e), rfl, rfl, [(1, .ptr 2 0), (2, .ptr 6 0), (5, n' 4)], srAT4 C ((linesU 5).filter (fun _ => true)), 37, rfl, ⟨⟨_, rfl, Weak.refl _ _⟩, ⟨_, rfl, Weak.refl _ _⟩, ⟨_, rfl, Weak.refl _ _⟩, trivial⟩, ⟨bk rfl rfl, bk rfl rfl, bk rfl rfl, bk rfl rfl, bk rfl rfl, bk rfl rfl, bk rfl rfl, bk rfl rfl, bk rfl rfl, bk rfl rfl, bk rfl rfl, bk rfl rfl, bk rfl rfl, bk rfl rfl, bk rfl rfl, bk rfl rfl, bk rfl rfl, bk rfl rfl, bk rfl rfl, bk rfl rfl, bk rfl rfl, bk rfl rfl, bk rfl rfl, bk rfl rfl, bk rfl rfl, bk rfl rfl, bk rfl rfl, bk rfl rfl, bk rfl rfl, bk rfl rfl, bk rfl rfl, bk rfl rfl, bk rfl rfl, bk rfl rfl, bk rfl rfl, bk rfl rfl, bk rfl rfl, trivial⟩, ?_⟩
  refine Side.mk (by unfold fitsK; kernel_rfl) ?_
  refine LoopG.round (m := false) mixed ?_
  refine If.mk (fun h => absurd h (by decide)) (fun _ => ?_)
  refine ifN ?_
  refine ⟨.inr rfl, rfl, _, rfl, ?_⟩
  refine ⟨_, _, rfl, (fun e => by cases e), rfl, rfl, [(1, .ptr 0 0), (3, .ptr 1 0)], (srAT4 C ((linesU 5).filter fun _ => true)).take 4, 37, rfl, ⟨⟨_, rfl, Weak.refl _ _⟩, ⟨_, rfl, Weak.refl _ _⟩, trivial⟩, ⟨bk rfl rfl, bk rfl rfl, bk rfl rfl, bk rfl rfl, trivial⟩, ?_⟩
  refine ⟨.inl rfl, FinM.mk _ rfl rfl ?_⟩
  have e : (linesU 5).filter (fun _ => true) = linesW 3 := by rw [linesU_full]; exact List.filter_eq_self.2 fun _ _ => rfl
  show AV.freeze _ (.sl ((linesU 5).filter fun _ => true).length (cntC C ((linesU 5).filter fun _ => true)) (.own 3 _ 2)) = _
  rw [e]
  show AV.sl (linesW 3).length (AV.freezes _ (cntC C (linesW 3))) .unk = _
  rw [freezes_cntC]
end Go.Vm

namespace Go.Vm
open Go.Proofs
theorem cntC_at (C : List (List Int)) : ∀ {L : List (List Int)} {j : Nat} {x : List Int}, L[j]? = some x → ((cntC C L).drop (j * 2)).take 2 = [eInts x, n' (sumE C x : Nat)]
 | [], _, _, h => by simp at h
 | y :: L, 0, x, h => by
  simp at h; subst h
  rfl
 | y :: L, j + 1, x, h => by
  have e : (j + 1) * 2 = j * 2 + 2 := by omega
  rw [e]
  show ((cntC C L).drop (j * 2)).take 2 = _
  exact cntC_at C (by simpa using h)
theorem jx_cnt {C L : List (List Int)} {tl : Tail} {i : Int} {r : Nat} {x : List Int} (hi : i = r) (h : L[r]? = some x) : indexOp Tryz.prog 211 (.sl L.length (cntC C L) tl) (.lit (.int .i64 i)) = some (.eptr [eInts x, n' (sumE C x : Nat)]) := by
 subst hi
 have hr := (List.getElem?_eq_some_iff.1 h).1
 refine (indexOp_sl (elem := 261) (n := 2) (by kernel_rfl) (by kernel_rfl) ⟨by omega, by omega, by rw [cntC_length, Int.toNat_natCast]; omega, by omega⟩).trans ?_
 rw [Int.toNat_natCast, cntC_at C h]
theorem app_lineM {g : Nat → Option Blk} {n len id gen : Nat} {cells : List AV} {l : List Int} (h1 : cells.length = len) (h2 : len < 2097152) (hg : g id = some (.mrow gen cells)) :
  appT Tryz.prog true g n 38 38 (.msl id gen len 1) (.sl 1 [eInts l] .full) = some (.msl id (gen + 1) (len + 1) 1, .set id (.mrow (gen + 1) (cells ++ [eInts l]))) :=
 appT_mrow (e := 30) (bytes := 24) (z := .slice none 0 0) (by kernel_rfl) (by kernel_rfl) (by kernel_rfl) (by kernel_rfl) (by kernel_rfl) rfl (by omega) (by omega) (by omega) hg rfl
theorem forgets_lists : ∀ L : List (List Int), AV.forgets (L.map eInts) = L.map eInts
 | [] => rfl
 | x :: L => by
  show AV.forget (eInts x) :: AV.forgets (L.map eInts) = _
  rw [forgets_lists L]
  show AV.sl x.length (AV.forgets (x.map n')) .unk :: _ = _
  rw [forgets_ints]
  rfl
theorem freezeRow_lists {g : Nat → Option Blk} {id gen : Nat} {L : List (List Int)} (hg : g id = some (.mrow gen (L.map eInts))) : freezeRow g id gen L.length 1 = eLists L := by
 unfold freezeRow
 rw [hg]
 show (bif Nat.beq gen gen && Nat.ble (L.length * 1) (L.map eInts).length then AV.sl L.length (AV.forgets ((L.map eInts).take (L.length * 1))) .unk else _) = _
 rw [Nat.beq_refl, Nat.ble_eq_true_of_le (by rw [List.length_map, Nat.mul_one]; exact Nat.le_refl _), Nat.mul_one, List.take_of_length_le (by rw [List.length_map]; exact Nat.le_refl _), forgets_lists]
 rfl
theorem freeze_eLists (g : Nat → Option Blk) (L : List (List Int)) : AV.freeze g (eLists L) = eLists L := by
 show AV.sl L.length (AV.freezes g (L.map eInts)) .unk = eLists L
 rw [freezes_map (f := eInts) (fun x => freeze_eInts g x)]
 rfl
set_option maxHeartbeats 4000000 in
set_option maxRecDepth 100000 in
theorem c_fewest {C L : List (List Int)} (hL : L ≠ []) (hl : L.length ≤ 1000) {q : List (List Int) × Int} (hq : fewW (withE C L) = some q) (hne : q.1 ≠ []) (H : List Blk) : ACall Tryz.prog 137 [.sl L.length (cntC C L) .unk, .lit (.slice none 0 0)] H (.ret (.tup [eLists q.1, n' q.2])) H := by
 obtain ⟨z, L', rfl⟩ : ∃ z L', L = z :: L' := by
  cases L with
  | nil => exact absurd rfl hL
  | cons z L' => exact ⟨z, L', rfl⟩
 refine fn_rule (m := true) (fn := Tryz.f137) (c := (Tryz.f137.body).getD .skip) mixed (by kernel_rfl) (by kernel_rfl) (of_decide_eq_true (by kernel_rfl)) ?_ ?_ ?_ H
 ·exact ⟨⟨under_cntC _ _ _, trivial⟩, trivial, trivial⟩
 ·exact ⟨under_eLists _ _, trivial, trivial⟩
 ·refine LoopG.at (n0 := 0) rfl ?_
  refine LoopG.round (m := true) mixed ?_
  refine If.mk (fun _ => ?_) (fun h => absurd (by show (0 : Int) < ((L'.length + 1 : Nat) : Int); omega) h)
  refine ifY ?_
  refine Ex.mk _ (jx_cnt (L := z :: L') (r := 0) rfl rfl) ?_
  refine Ex.mk _ rfl ?_
  refine LoopG.round (m := true) mixed ?_
  refine If.mk (fun h => absurd h (by decide)) (fun _ => ?_)
  refine ifN ?_
  refine ifY ?_
  refine If.mk (fun _ => ?_) (fun h => absurd rfl h)
  refine ifY ?_
  refine Ex.mk _ rfl ?_
  refine Side.mk (by unfold fitsK; kernel_rfl) ?_
  have hlw : (withE C (z :: L')).length = (z :: L').length := by unfold withE; rw [List.length_map]
  refine LoopG.at (n0 := 2) rfl ?_
  refine loop_rM (α := { p : Nat × Nat × List Int × List (List Int) × Int // (1 ≤ p.1 ∧ p.1 ≤ (z :: L').length ∧ p.2.2.2.1.length < p.1) ∧ fewW ((withE C (z :: L')).take p.1) = some (p.2.2.1 :: p.2.2.2.1, p.2.2.2.2) }) mixed (m := true) (fun p => [(1, .lit (.slice none 0 0)), (6, .msl 1 p.1.2.1 (p.1.2.2.2.1.length + 1) 1), (7, n' p.1.2.2.2.2), (13, .sl (z :: L').length (cntC C (z :: L')) .unk), (14, n' ((z :: L').length : Nat)), (15, n' (p.1.1 : Nat))])
   (fun p => [(1, .mrow p.1.2.1 ((p.1.2.2.1 :: p.1.2.2.2.1).map eInts))]) (fun p => (z :: L').length - p.1.1) 0 ⟨(1, 0, z, [], (sumE C z : Nat)), ⟨Nat.le_refl _, by simp, by simp⟩, rfl⟩ (leb rfl) ?_ ?_ ?_
  ·exact ⟨wp rfl trivial, wp rfl (ltb rfl), wp rfl trivial, ⟨_, rfl, Weak.refl _ _, ⟨under_cntC _ _ _, trivial⟩⟩, wp rfl trivial, wp rfl trivial, trivial⟩
  ·exact ⟨bk rfl rfl, trivial⟩
  rintro ⟨⟨r, g, x, xs, many⟩, ⟨hr1, hr2, hr3⟩, hf⟩
  have hr1 : 1 ≤ r := hr1
  have hr2 : r ≤ (z :: L').length := hr2
  have hr3 : xs.length < r := hr3
  have hf : fewW ((withE C (z :: L')).take r) = some (x :: xs, many) := hf
  by_cases hrl : r < (z :: L').length
  ·obtain ⟨y, hy, _, _⟩ := at_some (l := z :: L') (r := r) hrl
   have hstep : fewW ((withE C (z :: L')).take (r + 1)) = fewS (some (x :: xs, many)) (y, (sumE C y : Nat)) := by
    have e : (withE C (z :: L'))[r]? = some (y, ((sumE C y : Nat) : Int)) := by unfold withE; rw [List.getElem?_map, hy]; rfl
    rw [List.take_add_one, e, ← hf]
    exact fewW_snoc _ _
   refine If.mk (fun _ => ?_) (fun h => absurd (show ((r : Nat) : Int) < ((z :: L').length : Nat) by omega) h)
   refine ifY ?_
   refine Ex.mk _ (jx_cnt (L := z :: L') (r := r) rfl hy) ?_
   refine Ex.mk _ rfl ?_
   refine LoopG.round (m := true) mixed ?_
   refine If.mk (fun h => absurd h (by decide)) (fun _ => ?_)
   refine ifN ?_
   refine If.mk (fun h1 => ?_) (fun h1 => ?_)
   ·refine ifY ?_
    refine If.mk (fun _ => ?_) (fun h => absurd rfl h)
    refine ifY ?_
    refine Ex.mk _ rfl ?_
    refine Side.mk (fits64 (by omega)) ?_
    have h1' : ((sumE C y : Nat) : Int) < many := h1
    have hf' : fewW ((withE C (z :: L')).take (r + 1)) = some ([y], ((sumE C y : Nat) : Int)) := hstep.trans (if_pos h1')
    refine .inr ⟨rfl, 3, 1, 6, _, _, ⟨0, g, 1, 1, [eInts y], (x :: xs).map eInts, by decide, rfl, rfl, rfl, rfl, rfl⟩, ?_⟩
    refine ⟨Nat.zero_le _, rfl, ⟨(r + 1, g + 1, y, [], (sumE C y : Nat)), ⟨Nat.le_add_left _ _, hrl, Nat.succ_pos _⟩, hf'⟩, Nat.sub_lt_sub_left hrl (Nat.lt_succ_self r), ⟨wp rfl trivial, wp rfl (ltb rfl), wp rfl trivial, ⟨_, rfl, Weak.refl _ _, ⟨under_cntC _ _ _, trivial⟩⟩, wp rfl trivial, wp rfl trivial, trivial⟩, ⟨bk rfl rfl, trivial⟩, ⟨_, rfl, ⟨under_eInts _ _, trivial⟩⟩, trivial⟩
   ·refine ifN ?_
    have h1' : ¬ ((sumE C y : Nat) : Int) < many := h1
    refine If.mk (fun h2 => ?_) (fun h2 => ?_)
    ·refine ifY ?_
     refine ex_app _ _ (app_lineM (by rw [List.length_map]; rfl) (show xs.length + 1 < 2097152 by omega) rfl) ?_
     refine Side.mk (fits64 (by omega)) ?_
     have h2' : ((sumE C y : Nat) : Int) = many := h2
     have hf' : fewW ((withE C (z :: L')).take (r + 1)) = some (x :: (xs ++ [y]), many) := hstep.trans ((if_neg h1').trans (if_pos h2'))
     have e : (x :: xs).map eInts ++ [eInts y] = (x :: (xs ++ [y])).map eInts := by simp
     have e2 : (xs ++ [y]).length = xs.length + 1 := by simp
     refine .inl ⟨leb rfl, rfl, ⟨(r + 1, g + 1, x, xs ++ [y], many), ⟨Nat.le_add_left _ _, hrl, by show (xs ++ [y]).length < r + 1; omega⟩, hf'⟩, Nat.sub_lt_sub_left hrl (Nat.lt_succ_self r), ⟨wp rfl trivial, ⟨_, rfl, Weak.of_eq (congrArg (fun k => AV.msl 1 (g + 1) (k + 1) 1) e2.symm), ltb rfl⟩, wp rfl trivial, ⟨_, rfl, Weak.refl _ _, ⟨under_cntC _ _ _, trivial⟩⟩, wp rfl trivial, wp rfl trivial, trivial⟩, ⟨⟨congrArg (fun l => some (Blk.mrow (g + 1) l)) e, ltb rfl⟩, trivial⟩, ⟨_, rfl, ?_⟩, trivial⟩
     exact unders_append (unders_map (under_eInts _) (x :: xs)) ⟨under_eInts _ _, trivial⟩
    ·refine ifN ?_
     refine Side.mk (fits64 (by omega)) ?_
     have h2' : ¬ ((sumE C y : Nat) : Int) = many := h2
     have hf' : fewW ((withE C (z :: L')).take (r + 1)) = some (x :: xs, many) := hstep.trans ((if_neg h1').trans (if_neg h2'))
     refine .inl ⟨leb rfl, rfl, ⟨(r + 1, g, x, xs, many), ⟨Nat.le_add_left _ _, hrl, Nat.lt_succ_of_lt hr3⟩, hf'⟩, Nat.sub_lt_sub_left hrl (Nat.lt_succ_self r), ⟨wp rfl trivial, wp rfl (ltb rfl), wp rfl trivial, ⟨_, rfl, Weak.refl _ _, ⟨under_cntC _ _ _, trivial⟩⟩, wp rfl trivial, wp rfl trivial, trivial⟩, ⟨bk rfl rfl, trivial⟩, trivial⟩
  ·have er : r = (z :: L').length := by omega
   subst er
   refine If.mk (fun h => absurd h (show ¬ ((((z :: L').length : Nat) : Int) < ((z :: L').length : Nat)) by omega)) (fun _ => ?_)
   refine ifN ?_
   have hqe : q = (x :: xs, many) := by
    rw [← hlw, List.take_length, hq] at hf
    exact Option.some.inj hf
   subst hqe
   refine .inl ⟨leb rfl, .inl rfl, FinG.mk _ rfl rfl ?_⟩
   show AV.tup [freezeRow _ 1 g (x :: xs).length 1, n' many] = _
   rw [freezeRow_lists (L := x :: xs) rfl]
set_option maxRecDepth 100000 in
theorem c_pleast {C : List (List Int)} (hC : VbOk C) {q : List (List Int) × Int} (hq : fewW (withE C (linesW 3)) = some q) (hne : q.1 ≠ []) (H : List Blk) : ACall Tryz.prog 82 [ePg C] H (.ret (.tup [eLists q.1, n' q.2])) H := by
 have hl : (linesW 3).length ≤ 1000 := by decide
 have hf := c_fewest (C := C) (L := linesW 3) (by intro e; rw [e] at hl; exact absurd (mem_linesW.2 (show ([] : List Int).length ≤ 4 ∧ ∀ x ∈ ([] : List Int), 0 ≤ x ∧ x < ((3 : Nat) : Int) from ⟨by decide, fun x h => by cases h⟩)) (by rw [e]; exact List.not_mem_nil)) hl hq hne
 have ha := c_all hC
 generalize (AV.sl (linesW 3).length (cntC C (linesW 3)) .unk) = A at hf ha
 refine fn_rule (m := false) (fn := Tryz.f82) (c := (Tryz.f82.body).getD .skip) mixed (by kernel_rfl) (by kernel_rfl) (of_decide_eq_true (by kernel_rfl)) ?_ ?_ ?_ H
 ·exact ⟨under_pgC 0 C, trivial⟩
 ·exact ⟨under_eLists _ _, trivial, trivial⟩
 ·refine CallG.pure _ (ha) ?_
  refine CallG.pure _ (hf) ?_
  refine ⟨.inl rfl, FinG.mk _ rfl rfl ?_⟩
  show AV.tup [AV.freeze _ (eLists q.1), n' q.2] = _
  rw [freeze_eLists]
set_option maxRecDepth 100000 in
theorem c_Least {C : List (List Int)} (hC : VbOk C) {q : List (List Int) × Int} (hq : fewW (withE C (linesW 3)) = some q) (hne : q.1 ≠ []) (H : List Blk) : ACall Tryz.prog 32 [eVB C, n' 0] H (.ret (.tup [eLists q.1, n' q.2, n' 0])) H := by
 refine fn_rule (m := false) (fn := Tryz.f32) (c := (Tryz.f32.body).getD .skip) mixed (by kernel_rfl) (by kernel_rfl) (of_decide_eq_true (by kernel_rfl)) ?_ ?_ ?_ H
 ·exact ⟨under_vbC 0 C, trivial, trivial⟩
 ·exact ⟨under_eLists _ _, trivial, trivial, trivial⟩
 ·refine CallG.pure _ (c_vBook hC) ?_
  refine CallG.pure _ (c_hasLine hC) ?_
  refine ifN ?_
  refine CallG.pure _ (c_pleast hC hq hne) ?_
  refine ⟨.inl rfl, FinG.mk _ rfl rfl ?_⟩
  show AV.tup [AV.freeze _ (eLists q.1), n' q.2, n' 0] = _
  rw [freeze_eLists]
end Go.Vm
