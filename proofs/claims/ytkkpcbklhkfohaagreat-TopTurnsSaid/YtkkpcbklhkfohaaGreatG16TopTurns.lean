/-
  Texts of the proof, part 16: the machine, contracts of functions, plain laws. (Own work.)
-/
import Derived.Test.YtkkpcbklhkfohaaGreatG15TopTurns
import Derived.Test.YtkkpcbklhkfohaaGreatG12TopTurns
import Derived.Test.YtkkpcbklhkfohaaGreatG11TopTurns

namespace Go.Vm
open Go.Proofs
section
variable (ok : PoseD → Prop) [DecidablePred ok]
abbrev AwS := List (PoseD × Nat) × List PoseD
def extI (many : Nat) (s : AwS) (y : PoseD) : AwS := if ok y ∧ (∀ e ∈ s.1, e.1 ≠ y) then (s.1 ++ [(y, many)], s.2 ++ [y]) else s
def expI (many : Nat) (s : AwS) (x : PoseD) (r : Nat) : AwS := (List.range r).foldl (fun s k => extI ok many s (nxtI k x)) s
def rowI (many : Nat) (s : AwS) (now : List PoseD) : AwS := now.foldl (fun s x => expI ok many s x 4) s
end
section
variable {ok : PoseD → Prop} [DecidablePred ok]
theorem expI_succ (many : Nat) (s : AwS) (x : PoseD) (r : Nat) : expI ok many s x (r + 1) = extI ok many (expI ok many s x r) (nxtI r x) := by
 unfold expI; rw [List.range_succ, List.foldl_append]; rfl
theorem rowI_snoc (many : Nat) (s : AwS) (now : List PoseD) (x : PoseD) : rowI ok many s (now ++ [x]) = expI ok many (rowI ok many s now) x 4 := by
 unfold rowI; rw [List.foldl_append]; rfl
theorem extI_new {many : Nat} {s : AwS} {y : PoseD} (h1 : ok y) (h2 : ∀ e ∈ s.1, e.1 ≠ y) : extI ok many s y = (s.1 ++ [(y, many)], s.2 ++ [y]) := if_pos ⟨h1, h2⟩
theorem extI_old {many : Nat} {s : AwS} {y : PoseD} (h : ¬ (ok y ∧ ∀ e ∈ s.1, e.1 ≠ y)) : extI ok many s y = s := if_neg h
end
def keyL (y : PoseD) : List Int := [y.1, y.2, 0, 0, 0]
def awE (E : List (PoseD × Nat)) : List (List Int × Int) := E.map fun e => (keyL e.1, ((e.2 : Nat) : Int))
def lookD (E : List (PoseD × Nat)) (y : PoseD) : Option Nat := (E.find? fun e => decide (e.1 = y)).map (·.2)
theorem keyL_inj {x y : PoseD} : keyL x = keyL y ↔ x = y := by
 obtain ⟨a, b⟩ := x; obtain ⟨c, d⟩ := y
 simp [keyL]
theorem awE_snoc (E : List (PoseD × Nat)) (y : PoseD) (m : Nat) : awE (E ++ [(y, m)]) = awE E ++ [(keyL y, (m : Int))] := by unfold awE; rw [List.map_append]; rfl
theorem awE_look (y : PoseD) : ∀ E : List (PoseD × Nat), lookI (awE E) (keyL y) = (lookD E y).map fun m => ((m : Nat) : Int)
 | [] => rfl
 | e :: E => by
  have ih := awE_look y E
  unfold lookI awE lookD at ih ⊢
  rw [List.map_cons, List.find?_cons, List.find?_cons]
  by_cases h : e.1 = y
  ·simp [h]
  ·have h' : ¬ keyL e.1 = keyL y := fun x => h (keyL_inj.1 x)
   simp only [h, h', decide_false]
   exact ih
theorem awE_new {y : PoseD} {E : List (PoseD × Nat)} (h : ∀ e ∈ E, e.1 ≠ y) : ∀ p ∈ awE E, p.1 ≠ keyL y := fun p hp e => by
 obtain ⟨q, hq, rfl⟩ := List.mem_map.1 hp
 exact h q hq (keyL_inj.1 e)
theorem lookD_none {y : PoseD} {E : List (PoseD × Nat)} : lookD E y = none ↔ ∀ e ∈ E, e.1 ≠ y := by
 unfold lookD
 rw [Option.map_eq_none_iff, List.find?_eq_none]
 exact ⟨fun h e he => by simpa using h e he, fun h e he => by simpa using h e he⟩
theorem isI64_near {x : Int} (h : -1000 ≤ x ∧ x ≤ 1000) : isI64 (.int .i64 x) = true := by
 unfold isI64
 simp
 omega
theorem shOk_key {y : PoseD} (h1 : -1000 ≤ y.1 ∧ y.1 ≤ 1000) (h2 : -1000 ≤ y.2 ∧ y.2 ≤ 1000) : shOk (.arr 5) (intV (keyL y)) = true := by
 show (true && (isI64 (.int .i64 y.1) && (isI64 (.int .i64 y.2) && (isI64 (.int .i64 0) && (isI64 (.int .i64 0) && (isI64 (.int .i64 0) && true)))))) = true
 rw [isI64_near h1, isI64_near h2]
 rfl
section
variable {m : Bool} {g : Nat → Option Blk} {n : Nat} {ρ : Operand → Option AV} {o : Oper} {id : Nat} {x k z : Operand} {y : PoseD} {E : List (PoseD × Nat)} {many : Nat}
theorem aw_look2 (ho : o.op = .lookup 111 x k true) (hx : ρ x = some (.mp id)) (hk : ρ k = some (.agg ((keyL y).map n'))) (hg : g id = some (.map (.arr 5) (kE (awE E)))) (hs : shOk (.arr 5) (intV (keyL y)) = true) (hf : lookD E y = some many) :
  aopF Tryz.prog m g n ρ o = some (.val (.tup [n' (many : Nat), .lit (.bool true)]) .same) := by
 have ht : tmap Tryz.prog 111 = some (.arr 5, 115, 3) := by kernel_rfl
 have hz : tz Tryz.prog 3 = some (.int .i64 0) := by kernel_rfl
 rw [aopF_fun]
 obtain ⟨dst, op, ty, pos, after, guard⟩ := o
 simp only at ho
 subst ho
 simp only [aopT, hx, hk, ht, conc_ints, hg, hz, mlook_ints, awE_look, hf]
 rw [if_pos ⟨by simp [KeyShape.same], hs⟩]
 rfl
theorem aw_none2 (ho : o.op = .lookup 111 x k true) (hx : ρ x = some (.mp id)) (hk : ρ k = some (.agg ((keyL y).map n'))) (hg : g id = some (.map (.arr 5) (kE (awE E)))) (hs : shOk (.arr 5) (intV (keyL y)) = true) (hf : lookD E y = none) :
  aopF Tryz.prog m g n ρ o = some (.val (.tup [n' 0, .lit (.bool false)]) .same) := by
 have ht : tmap Tryz.prog 111 = some (.arr 5, 115, 3) := by kernel_rfl
 have hz : tz Tryz.prog 3 = some (.int .i64 0) := by kernel_rfl
 rw [aopF_fun]
 obtain ⟨dst, op, ty, pos, after, guard⟩ := o
 simp only at ho
 subst ho
 simp only [aopT, hx, hk, ht, conc_ints, hg, hz, mlook_ints, awE_look, hf]
 rw [if_pos ⟨by simp [KeyShape.same], hs⟩]
 rfl
theorem aw_look1 (ho : o.op = .lookup 111 x k false) (hx : ρ x = some (.mp id)) (hk : ρ k = some (.agg ((keyL y).map n'))) (hg : g id = some (.map (.arr 5) (kE (awE E)))) (hs : shOk (.arr 5) (intV (keyL y)) = true) :
  aopF Tryz.prog m g n ρ o = some (.val (n' (((lookD E y).getD 0 : Nat))) .same) := by
 have ht : tmap Tryz.prog 111 = some (.arr 5, 115, 3) := by kernel_rfl
 have hz : tz Tryz.prog 3 = some (.int .i64 0) := by kernel_rfl
 rw [aopF_fun]
 obtain ⟨dst, op, ty, pos, after, guard⟩ := o
 simp only at ho
 subst ho
 simp only [aopT, hx, hk, ht, conc_ints, hg, hz, mlook_ints, awE_look]
 rw [if_pos ⟨by simp [KeyShape.same], hs⟩]
 cases lookD E y <;> rfl
theorem aw_set (ho : o.op = .mapUpdate 111 x k z ∨ o.op = .insert 111 x k z) (hx : ρ x = some (.mp id)) (hk : ρ k = some (.agg ((keyL y).map n'))) (hy : ρ z = some (n' (many : Nat))) (hg : g id = some (.map (.arr 5) (kE (awE E))))
  (hs : shOk (.arr 5) (intV (keyL y)) = true) (hf : ∀ e ∈ E, e.1 ≠ y) : aopF Tryz.prog m g n ρ o = some (.val (.lit undef) (.set id (.map (.arr 5) (kE (awE (E ++ [(y, many)])))))) := by
 have ht : tmap Tryz.prog 111 = some (.arr 5, 115, 3) := by kernel_rfl
 rw [aopF_fun]
 obtain ⟨dst, op, ty, pos, after, guard⟩ := o
 simp only at ho
 rcases ho with ho | ho <;> subst ho <;> simp only [aopT, hx, hk, hy, ht, conc_ints, hg, mset_ints (awE_new hf)] <;> rw [if_pos ⟨by simp [KeyShape.same], hs⟩, awE_snoc]
end
end Go.Vm

namespace Go.Vm
open Go.Proofs
set_option maxRecDepth 100000 in
theorem c_jsum {u v : Int} (hu : -1000000 ≤ u ∧ u ≤ 1000000) (hv : -1000000 ≤ v ∧ v ≤ 1000000) (H : List Blk) : ACall Tryz.prog 151 [eP u v] H (.ret (n' (u + v))) H := by
 refine fn_rule (m := false) (fn := Tryz.f151) (c := (Tryz.f151.body).getD .skip) mixed (by kernel_rfl) (by kernel_rfl) (of_decide_eq_true (by kernel_rfl)) ?_ ?_ ?_ H
 ·exact ⟨under_eP _ _ _, trivial⟩
 ·exact trivial
 ·refine LoopG.round mixed (m := false) ?_
  refine If.mk (fun _ => ?_) (fun h => absurd (by decide) h)
  refine ifY ?_
  refine Ex.mk _ rfl ?_
  refine Ex.mk _ rfl ?_
  refine Side.mk (fits64 (by omega)) ?_
  refine Side.mk (by unfold fitsK; kernel_rfl) ?_
  refine LoopG.round mixed (m := false) ?_
  refine If.mk (fun _ => ?_) (fun h => absurd (by decide) h)
  refine ifY ?_
  refine Ex.mk _ rfl ?_
  refine Ex.mk _ rfl ?_
  refine Side.mk (fits64 (by omega)) ?_
  refine Side.mk (by unfold fitsK; kernel_rfl) ?_
  refine LoopG.round mixed (m := false) ?_
  refine If.mk (fun h => absurd h (by decide)) (fun _ => ?_)
  refine ifN ?_
  exact ⟨.inl rfl, FinG.mk _ rfl rfl (congrArg n' (by omega))⟩
def sx (d : Int) : Int := if d = 0 then 7 else if d = 1 then 5 else if d = 2 then 0 else if d = 3 then -5 else if d = 4 then -7 else if d = 5 then -5 else if d = 6 then 0 else 5
def sy (d : Int) : Int := if d = 0 then 0 else if d = 1 then 5 else if d = 2 then 7 else if d = 3 then 5 else if d = 4 then 0 else if d = 5 then -5 else if d = 6 then -7 else -5
def ePt (x y : Int) : AV := .agg [n' x, n' y]
theorem sx_mul {n d : Int} (hn : 1 ≤ n ∧ n ≤ 20) : -140 ≤ n * sx d ∧ n * sx d ≤ 140 := by
 unfold sx
 repeat' split
 all_goals omega
theorem sy_mul {n d : Int} (hn : 1 ≤ n ∧ n ≤ 20) : -140 ≤ n * sy d ∧ n * sy d ≤ 140 := by
 unfold sy
 repeat' split
 all_goals omega
set_option maxRecDepth 100000 in
theorem c_jstep {d : Int} (hd : 0 ≤ d ∧ d ≤ 7) (H : List Blk) : ACall Tryz.prog 152 [n' d] H (.ret (ePt (sx d) (sy d))) H := by
 have hc : d = 0 ∨ d = 1 ∨ d = 2 ∨ d = 3 ∨ d = 4 ∨ d = 5 ∨ d = 6 ∨ d = 7 := by omega
 refine fn_rule (m := false) (fn := Tryz.f152) (c := (Tryz.f152.body).getD .skip) mixed (by kernel_rfl) (by kernel_rfl) (of_decide_eq_true (by kernel_rfl)) ?_ ?_ ?_ H
 ·exact ⟨trivial, trivial⟩
 ·exact ⟨trivial, trivial, trivial⟩
 ·rcases hc with rfl | rfl | rfl | rfl | rfl | rfl | rfl | rfl
  all_goals
   refine Ex.mk _ rfl ?_
   exact ⟨.inl rfl, FinG.mk _ rfl rfl rfl⟩
set_option maxRecDepth 100000 in
theorem c_jx (x y : Int) (H : List Blk) : ACall Tryz.prog 185 [ePt x y] H (.ret (n' x)) H := by
 refine fn_rule (m := false) (fn := Tryz.f185) (c := (Tryz.f185.body).getD .skip) mixed (by kernel_rfl) (by kernel_rfl) (of_decide_eq_true (by kernel_rfl)) ?_ ?_ ?_ H
 ·exact ⟨⟨trivial, trivial, trivial⟩, trivial⟩
 ·exact trivial
 ·exact ⟨.inl rfl, FinG.mk _ rfl rfl rfl⟩
set_option maxRecDepth 100000 in
theorem c_jy (x y : Int) (H : List Blk) : ACall Tryz.prog 186 [ePt x y] H (.ret (n' y)) H := by
 refine fn_rule (m := false) (fn := Tryz.f186) (c := (Tryz.f186.body).getD .skip) mixed (by kernel_rfl) (by kernel_rfl) (of_decide_eq_true (by kernel_rfl)) ?_ ?_ ?_ H
 ·exact ⟨⟨trivial, trivial, trivial⟩, trivial⟩
 ·exact trivial
 ·exact ⟨.inl rfl, FinG.mk _ rfl rfl rfl⟩
set_option maxRecDepth 100000 in
theorem c_jcoord (x y : Int) (H : List Blk) : ACall Tryz.prog 154 [ePt x y] H (.ret (.agg [n' x, n' y])) H := by
 refine fn_rule (m := false) (fn := Tryz.f154) (c := (Tryz.f154.body).getD .skip) mixed (by kernel_rfl) (by kernel_rfl) (of_decide_eq_true (by kernel_rfl)) ?_ ?_ ?_ H
 ·exact ⟨⟨trivial, trivial, trivial⟩, trivial⟩
 ·exact ⟨trivial, trivial, trivial⟩
 ·refine LoopG.round mixed (m := false) ?_
  refine If.mk (fun _ => ?_) (fun h => absurd (by decide) h)
  refine ifY ?_
  refine Ex.mk _ rfl ?_
  refine CallG.pure _ (c_jx x y) ?_
  refine Side.mk (by unfold fitsK; kernel_rfl) ?_
  refine LoopG.round mixed (m := false) ?_
  refine If.mk (fun _ => ?_) (fun h => absurd (by decide) h)
  refine ifY ?_
  refine Ex.mk _ rfl ?_
  refine CallG.pure _ (c_jy x y) ?_
  refine Side.mk (by unfold fitsK; kernel_rfl) ?_
  refine LoopG.round mixed (m := false) ?_
  refine If.mk (fun h => absurd h (by decide)) (fun _ => ?_)
  refine ifN ?_
  exact ⟨.inl rfl, FinG.mk _ rfl rfl rfl⟩
set_option maxRecDepth 100000 in
theorem c_jwithin (x lo hi : Int) (H : List Blk) : ACall Tryz.prog 155 [n' x, .agg [n' lo, n' hi]] H (.ret (.lit (.bool (decide (lo ≤ x ∧ x ≤ hi))))) H := by
 refine fn_rule (m := false) (fn := Tryz.f155) (c := (Tryz.f155.body).getD .skip) mixed (by kernel_rfl) (by kernel_rfl) (of_decide_eq_true (by kernel_rfl)) ?_ ?_ ?_ H
 ·exact ⟨trivial, ⟨trivial, trivial, trivial⟩, trivial⟩
 ·exact trivial
 ·refine CallG.bool (c_jin x lo hi) (fun h => ?_) (fun h => ?_)
  ·exact ⟨.inl rfl, FinG.yes rfl rfl (h)⟩
  ·exact ⟨.inl rfl, FinG.no rfl rfl (h)⟩
def liesI (x y : Int) (f : FieldD) : Prop := (f.xl ≤ x ∧ x ≤ f.xh) ∧ (f.yl ≤ y ∧ y ≤ f.yh)
instance (x y : Int) (f : FieldD) : Decidable (liesI x y f) := by unfold liesI; infer_instance
set_option maxRecDepth 100000 in
theorem c_jlies (x y : Int) (f : FieldD) (H : List Blk) : ACall Tryz.prog 100 [ePt x y, eField f] H (.ret (.lit (.bool (decide (liesI x y f))))) H := by
 refine fn_rule (m := false) (fn := Tryz.f100) (c := (Tryz.f100.body).getD .skip) mixed (by kernel_rfl) (by kernel_rfl) (of_decide_eq_true (by kernel_rfl)) ?_ ?_ ?_ H
 ·exact ⟨⟨trivial, trivial, trivial⟩, ⟨trivial, trivial, trivial, trivial, trivial⟩, trivial⟩
 ·exact trivial
 ·refine CallG.pure _ (c_jcoord x y) ?_
  refine LoopG.round mixed (m := false) ?_
  refine If.mk (fun _ => ?_) (fun h => absurd (by decide) h)
  refine ifY ?_
  refine Ex.mk _ rfl ?_
  refine CallG.bool (c_jwithin x f.xl f.xh) (fun h1 => ?_) (fun h => ?_)
  rotate_left
  ·refine ifY ?_
   exact ⟨.inl rfl, FinG.no rfl rfl (fun e => h e.1)⟩
  refine ifN ?_
  refine Side.mk (by unfold fitsK; kernel_rfl) ?_
  refine LoopG.round mixed (m := false) ?_
  refine If.mk (fun _ => ?_) (fun h => absurd (by decide) h)
  refine ifY ?_
  refine Ex.mk _ rfl ?_
  refine CallG.bool (c_jwithin y f.yl f.yh) (fun h2 => ?_) (fun h => ?_)
  rotate_left
  ·refine ifY ?_
   exact ⟨.inl rfl, FinG.no rfl rfl (fun e => h e.2)⟩
  refine ifN ?_
  refine Side.mk (by unfold fitsK; kernel_rfl) ?_
  refine LoopG.round mixed (m := false) ?_
  refine If.mk (fun h => absurd h (by decide)) (fun _ => ?_)
  refine ifN ?_
  exact ⟨.inl rfl, FinG.yes rfl rfl (⟨h1, h2⟩)⟩
def dirI (t : Int) : Int := Int.tmod (Int.tmod t 8 + 8) 8
theorem dirI_range (t : Int) : 0 ≤ dirI t ∧ dirI t ≤ 7 := by
 unfold dirI
 have h1 := Int.tmod_lt_of_pos t (show (0 : Int) < 8 by decide)
 have h2 := Int.lt_tmod_of_pos t (show (0 : Int) < 8 by decide)
 have h3 := Int.tmod_nonneg (a := Int.tmod t 8 + 8) 8 (by omega)
 have h4 := Int.tmod_lt_of_pos (Int.tmod t 8 + 8) (show (0 : Int) < 8 by decide)
 omega
theorem dir_mid (t : Int) : 0 ≤ Int.tmod t 8 + 8 ∧ Int.tmod t 8 + 8 ≤ 16 := by
 have h1 := Int.tmod_lt_of_pos t (show (0 : Int) < 8 by decide)
 have h2 := Int.lt_tmod_of_pos t (show (0 : Int) < 8 by decide)
 omega
theorem fits140 {n : Int} (h : -140 ≤ n ∧ n ≤ 140) : fitsK .i64 n := fits64 (by omega)
def p0x (st : Int) (a : LimbD) (p : Int) : Int := 0 + a.len * sx (dirI (st + p))
def p0y (st : Int) (a : LimbD) (p : Int) : Int := 0 + a.len * sy (dirI (st + p))
def t1I (st : Int) (b : LimbD) (p q : Int) : Int := (if b.par = 0 then st + p else st) + q
def p1x (st : Int) (a b : LimbD) (p q : Int) : Int := (if b.par = 0 then p0x st a p else 0) + b.len * sx (dirI (t1I st b p q))
def p1y (st : Int) (a b : LimbD) (p q : Int) : Int := (if b.par = 0 then p0y st a p else 0) + b.len * sy (dirI (t1I st b p q))
set_option maxHeartbeats 2000000 in
set_option maxRecDepth 100000 in
theorem c_jends {st : Int} {a b : LimbD} (hf : figOk st a b) {p q : Int} (hp : poseOk a b p q) (H : List Blk) : ACall Tryz.prog 97 [eFig st a b, eP p q] H (.ret (.sl 2 [n' (p0x st a p), n' (p0y st a p), n' (p1x st a b p q), n' (p1y st a b p q)] .unk)) H := by
 obtain ⟨bp, bl, blo, bhi, bw⟩ := b
 obtain ⟨k0, ⟨m1, m2, m3, m4, m5⟩, ⟨k1, k2, k3, k4, k5⟩⟩ := id hf
 obtain ⟨hp, hq⟩ := hp
 have k1 : -1 ≤ bp ∧ bp ≤ 1 - 1 := k1
 have k2 : 1 ≤ bl ∧ bl ≤ 20 := k2
 have k3 : -4 ≤ blo ∧ blo ≤ 4 := k3
 have k4 : blo ≤ bhi ∧ bhi ≤ 4 := k4
 have hq : blo ≤ q ∧ q ≤ bhi := hq
 refine fn_rule (m := false) (fn := Tryz.f97) (c := (Tryz.f97.body).getD .skip) mixed (by kernel_rfl) (by kernel_rfl) (of_decide_eq_true (by kernel_rfl)) ?_ ?_ ?_ H
 ·exact ⟨under_eFig _ _ _ _, under_eP _ _ _, trivial⟩
 ·exact ⟨⟨trivial, trivial, trivial, trivial, trivial⟩, trivial⟩
 ·refine LoopG.round mixed (m := false) ?_
  refine If.mk (fun _ => ?_) (fun h => absurd (by decide) h)
  refine ifY ?_
  refine Ex.mk _ rfl ?_
  refine Ex.mk _ rfl ?_
  refine PickW.mk [5] ?_
  refine If.mk (fun h => absurd h (by omega)) (fun _ => ?_)
  refine ifN ?_
  refine Ex.mk _ rfl ?_
  refine Ex.mk _ rfl ?_
  refine CallG.weak _ (.cons (fun H => WeakH.tail _ _ _ H) (.nil)) (c_jsum (u := st) (v := p) (by omega) (by omega)) ?_
  refine Ex.mk _ rfl ?_
  have g1 := dir_mid (st + p)
  refine Side.mk (fits64 (by omega)) ?_
  refine CallG.pure _ (c_jstep (dirI_range (st + p))) ?_
  have g2 := sx_mul (n := a.len) (d := dirI (st + p)) m2
  have g3 := sy_mul (n := a.len) (d := dirI (st + p)) m2
  refine Side.mk (fits140 g2) ?_
  refine CallG.weak _ (.cons (fun H => WeakH.tail _ _ _ H) (.nil)) (c_jsum (u := 0) (v := a.len * sx (dirI (st + p))) (by decide) (by omega)) ?_
  refine Side.mk (fits140 g3) ?_
  refine CallG.weak _ (.cons (fun H => WeakH.tail _ _ _ H) (.nil)) (c_jsum (u := 0) (v := a.len * sy (dirI (st + p))) (by decide) (by omega)) ?_
  refine Ex.mk _ rfl ?_
  refine Side.mk (by unfold fitsK; kernel_rfl) ?_
  refine LoopG.round mixed (m := false) ?_
  refine If.mk (fun _ => ?_) (fun h => absurd (by decide) h)
  refine ifY ?_
  refine Ex.mk _ rfl ?_
  refine Ex.mk _ rfl ?_
  refine PickW.mk [38] ?_
  refine If.mk (fun hpar => ?_) (fun hpar => ?_)
  ·obtain rfl : bp = 0 := by have : 0 ≤ bp := hpar; omega
   refine ifY ?_
   refine PickW.mk [38] ?_
   refine Ex.mk _ rfl ?_
   refine Ex.mk _ rfl ?_
   refine Ex.mk _ rfl ?_
   refine Ex.mk _ rfl ?_
   refine Ex.mk _ rfl ?_
   refine Ex.mk _ rfl ?_
   refine CallG.weak _ (.cons (fun H => WeakH.tail _ _ _ H) (.nil)) (c_jsum (u := st + p) (v := q) (by omega) (by omega)) ?_
   refine Ex.mk _ rfl ?_
   have f1 := dir_mid (st + p + q)
   refine Side.mk (fits64 (by omega)) ?_
   refine CallG.pure _ (c_jstep (dirI_range (st + p + q))) ?_
   have f2 := sx_mul (n := bl) (d := dirI (st + p + q)) k2
   have f3 := sy_mul (n := bl) (d := dirI (st + p + q)) k2
   refine Side.mk (fits140 f2) ?_
   refine CallG.weak _ (.cons (fun H => WeakH.tail _ _ _ H) (.nil)) (c_jsum (u := 0 + a.len * sx (dirI (st + p))) (v := bl * sx (dirI (st + p + q))) (by omega) (by omega)) ?_
   refine Side.mk (fits140 f3) ?_
   refine CallG.weak _ (.cons (fun H => WeakH.tail _ _ _ H) (.nil)) (c_jsum (u := 0 + a.len * sy (dirI (st + p))) (v := bl * sy (dirI (st + p + q))) (by omega) (by omega)) ?_
   refine Ex.mk _ rfl ?_
   refine Side.mk (by unfold fitsK; kernel_rfl) ?_
   refine LoopG.round mixed (m := false) ?_
   refine If.mk (fun h => absurd h (by decide)) (fun _ => ?_)
   refine ifN ?_
   refine ⟨.inl rfl, FinG.mk _ rfl rfl ?_⟩
   unfold p1x p1y t1I
   have e0 : (LimbD.mk 0 bl blo bhi bw).par = 0 := rfl
   rw [if_pos e0, if_pos e0, if_pos e0]
   rfl
  ·have hb0 : ¬ bp = 0 := by have : ¬ 0 ≤ bp := hpar; omega
   refine ifN ?_
   refine Ex.mk _ rfl ?_
   refine Ex.mk _ rfl ?_
   refine CallG.weak _ (.cons (fun H => WeakH.tail _ _ _ H) (.nil)) (c_jsum (u := st) (v := q) (by omega) (by omega)) ?_
   refine Ex.mk _ rfl ?_
   have f1 := dir_mid (st + q)
   refine Side.mk (fits64 (by omega)) ?_
   refine CallG.pure _ (c_jstep (dirI_range (st + q))) ?_
   have f2 := sx_mul (n := bl) (d := dirI (st + q)) k2
   have f3 := sy_mul (n := bl) (d := dirI (st + q)) k2
   refine Side.mk (fits140 f2) ?_
   refine CallG.weak _ (.cons (fun H => WeakH.tail _ _ _ H) (.nil)) (c_jsum (u := 0) (v := bl * sx (dirI (st + q))) (by decide) (by omega)) ?_
   refine Side.mk (fits140 f3) ?_
   refine CallG.weak _ (.cons (fun H => WeakH.tail _ _ _ H) (.nil)) (c_jsum (u := 0) (v := bl * sy (dirI (st + q))) (by decide) (by omega)) ?_
   refine Ex.mk _ rfl ?_
   refine Side.mk (by unfold fitsK; kernel_rfl) ?_
   refine LoopG.round mixed (m := false) ?_
   refine If.mk (fun h => absurd h (by decide)) (fun _ => ?_)
   refine ifN ?_
   refine ⟨.inl rfl, FinG.mk _ rfl rfl ?_⟩
   unfold p1x p1y t1I
   rw [if_neg hb0, if_neg hb0, if_neg hb0]
   rfl
end Go.Vm

namespace Go.Vm
open Go.Proofs
def kC (st : Int) (a b : LimbD) (e h0 h1 : FieldD) (r0 r1 : Int) : List AV := figK st a b ++ stageC e h0 h1 r0 r1
def eK (st : Int) (a b : LimbD) (e h0 h1 : FieldD) (r0 r1 : Int) : AV := .agg (kC st a b e h0 h1 r0 r1)
theorem under_eK (n : Nat) (st : Int) (a b : LimbD) (e h0 h1 : FieldD) (r0 r1 : Int) : (eK st a b e h0 h1 r0 r1).under n :=
 ⟨trivial, ⟨⟨trivial, trivial, trivial, trivial, trivial, trivial, trivial, trivial, trivial, trivial, trivial⟩, trivial⟩, trivial, trivial, trivial, trivial, ⟨⟨trivial, trivial, trivial, trivial, trivial, trivial, trivial, trivial, trivial⟩, trivial⟩, ⟨⟨trivial, trivial, trivial⟩, trivial⟩, trivial⟩
def fineE (e h0 h1 : FieldD) (r0 : Int) (x0 y0 x1 y1 : Int) : Prop := liesI x0 y0 e ∧ liesI x1 y1 e ∧
 if r0 = 0 then (liesI x0 y0 h0 ∧ liesI x1 y1 h1) ∨ (liesI x0 y0 h1 ∧ liesI x1 y1 h0) else (liesI x1 y1 h0 ∧ liesI x0 y0 h1) ∨ (liesI x1 y1 h1 ∧ liesI x0 y0 h0)
instance (e h0 h1 : FieldD) (r0 x0 y0 x1 y1 : Int) : Decidable (fineE e h0 h1 r0 x0 y0 x1 y1) := by unfold fineE; infer_instance
def fineI (st : Int) (a b : LimbD) (e h0 h1 : FieldD) (r0 p q : Int) : Prop := fineE e h0 h1 r0 (p0x st a p) (p0y st a p) (p1x st a b p q) (p1y st a b p q)
instance (st : Int) (a b : LimbD) (e h0 h1 : FieldD) (r0 p q : Int) : Decidable (fineI st a b e h0 h1 r0 p q) := by unfold fineI; infer_instance
set_option maxHeartbeats 2000000 in
set_option maxRecDepth 100000 in
theorem c_jout (st : Int) (a b : LimbD) (e h0 h1 : FieldD) (r0 r1 x0 y0 x1 y1 : Int) (H : List Blk) (hH : HT (ofL [(0, .box (kC st a b e h0 h1 r0 r1) 108)]) 1 H) :
  ACall Tryz.prog 98 [.sl 2 [n' x0, n' y0, n' x1, n' y1] .unk, .fn (.func 99) [] [.ptr 0 0]] H (.ret (.lit (.bool (decide (¬ (liesI x0 y0 e ∧ liesI x1 y1 e)))))) H := by
 refine fn_at (m := false) (fn := Tryz.f98) (c := (Tryz.f98.body).getD .skip) mixed (by kernel_rfl) (by kernel_rfl) (of_decide_eq_true (by kernel_rfl)) rfl ?_ H hH
 refine CallG.inline (m := false) (fn := Tryz.f153) (c := (Tryz.f153.body).getD .skip) mixed (by kernel_rfl) (by kernel_rfl) (of_decide_eq_true (by kernel_rfl)) ?_
 refine LoopG.round mixed (m := false) ?_
 refine If.mk (fun _ => ?_) (fun h => absurd (by decide) h)
 refine ifY ?_
 refine Ex.mk _ rfl ?_
 refine Ex.mk _ rfl ?_
 refine CallG.inline (m := false) (fn := Tryz.f99) (c := (Tryz.f99.body).getD .skip) mixed (by kernel_rfl) (by kernel_rfl) (of_decide_eq_true (by kernel_rfl)) ?_
 refine CallG.bool (c_jlies x0 y0 e) (fun m1 => ?_) (fun h => ?_)
 rotate_left
 ·refine ⟨.inl rfl, _, rfl, rfl, ?_⟩
  refine ifY ?_
  refine ⟨.inl rfl, _, rfl, rfl, ?_⟩
  refine If.mk (fun _ => ?_) (fun h => absurd (by decide) h)
  refine ⟨.inl rfl, leb rfl, FinF.bool rfl rfl ⟨fun _ => rfl, fun _ z => h z.1⟩⟩
 refine ⟨.inl rfl, _, rfl, rfl, ?_⟩
 refine ifN ?_
 refine Side.mk (by unfold fitsK; kernel_rfl) ?_
 refine LoopG.round mixed (m := false) ?_
 refine If.mk (fun _ => ?_) (fun h => absurd (by decide) h)
 refine ifY ?_
 refine Ex.mk _ rfl ?_
 refine Ex.mk _ rfl ?_
 refine CallG.inline (m := false) (fn := Tryz.f99) (c := (Tryz.f99.body).getD .skip) mixed (by kernel_rfl) (by kernel_rfl) (of_decide_eq_true (by kernel_rfl)) ?_
 refine CallG.bool (c_jlies x1 y1 e) (fun m2 => ?_) (fun h => ?_)
 rotate_left
 ·refine ⟨.inl rfl, _, rfl, rfl, ?_⟩
  refine ifY ?_
  refine ⟨.inl rfl, _, rfl, rfl, ?_⟩
  refine If.mk (fun _ => ?_) (fun h => absurd (by decide) h)
  refine ⟨.inl rfl, leb rfl, FinF.bool rfl rfl ⟨fun _ => rfl, fun _ z => h z.2⟩⟩
 refine ⟨.inl rfl, _, rfl, rfl, ?_⟩
 refine ifN ?_
 refine Side.mk (by unfold fitsK; kernel_rfl) ?_
 refine LoopG.round mixed (m := false) ?_
 refine If.mk (fun h => absurd h (by decide)) (fun _ => ?_)
 refine ifN ?_
 refine ⟨.inl rfl, _, rfl, rfl, ?_⟩
 refine If.mk (fun h => absurd h (by decide)) (fun _ => ?_)
 refine ⟨.inl rfl, leb rfl, FinF.bool rfl rfl ⟨fun z => absurd ⟨m1, m2⟩ z, fun z => by cases z⟩⟩
set_option maxHeartbeats 2000000 in
set_option maxRecDepth 100000 in
theorem c_jfineE {st : Int} {a b : LimbD} {e h0 h1 : FieldD} {r0 r1 : Int} (hs : stageOk e h0 h1 r0 r1) {p q x0 y0 x1 y1 : Int}
  (hc : ∀ H, ACall Tryz.prog 97 [eFig st a b, eP p q] H (.ret (.sl 2 [n' x0, n' y0, n' x1, n' y1] .unk)) H) (H : List Blk) :
  ACall Tryz.prog 46 [eK st a b e h0 h1 r0 r1, eP p q] H (.ret (.lit (.bool (decide (fineE e h0 h1 r0 x0 y0 x1 y1))))) H := by
 obtain ⟨_, _, _, s4, s5, s6⟩ := hs
 refine fn_rule (m := false) (fn := Tryz.f46) (c := (Tryz.f46.body).getD .skip) mixed (by kernel_rfl) (by kernel_rfl) (of_decide_eq_true (by kernel_rfl)) ?_ ?_ ?_ H
 ·exact ⟨under_eK _ _ _ _ _ _ _ _ _, under_eP _ _ _, trivial⟩
 ·exact trivial
 ·refine CallG.pure _ (hc) ?_
  refine CallG.atB (c_jout st a b e h0 h1 r0 r1 x0 y0 x1 y1) (fun h => ?_) (fun h => ?_)
  ·refine ifY ?_
   exact ⟨.inl rfl, FinG.no rfl rfl (fun z => h ⟨z.1, z.2.1⟩)⟩
  have h := Decidable.of_not_not h
  refine ifN ?_
  have hr : (r0 = 0 ∧ r1 = 1) ∨ (r0 = 1 ∧ r1 = 0) := by omega
  rcases hr with ⟨rfl, rfl⟩ | ⟨rfl, rfl⟩
  ·refine PickW.mk [17, 18] ?_
   refine Ex.mk _ rfl ?_
   refine Ex.mk _ rfl ?_
   refine Ex.mk _ rfl ?_
   refine Ex.mk _ rfl ?_
   refine Ex.mk _ rfl ?_
   refine Ex.mk _ rfl ?_
   refine Ex.mk _ rfl ?_
   refine Ex.mk _ rfl ?_
   refine PickW.mk [31, 32] ?_
   refine Ex.mk _ rfl ?_
   refine Ex.mk _ rfl ?_
   refine Ex.mk _ rfl ?_
   refine Ex.mk _ rfl ?_
   refine CallG.bool (c_jlies x0 y0 h0) (fun k1 => ?_) (fun k1 => ?_)
   ·refine CallG.bool (c_jlies x1 y1 h1) (fun k2 => ?_) (fun k2 => ?_)
    ·exact ⟨.inl rfl, FinG.yes rfl rfl (⟨h.1, h.2, .inl ⟨k1, k2⟩⟩)⟩
    ·refine CallG.bool (c_jlies x0 y0 h1) (fun k3 => ?_) (fun k3 => ?_)
     ·refine CallG.bool (c_jlies x1 y1 h0) (fun k4 => ?_) (fun k4 => ?_)
      ·exact ⟨.inl rfl, FinG.yes rfl rfl (⟨h.1, h.2, .inr ⟨k3, k4⟩⟩)⟩
      ·exact ⟨.inl rfl, FinG.no rfl rfl (fun z => z.2.2.elim (fun z => k2 z.2) (fun z => k4 z.2))⟩
     ·exact ⟨.inl rfl, FinG.no rfl rfl (fun z => z.2.2.elim (fun z => k2 z.2) (fun z => k3 z.1))⟩
   ·refine CallG.bool (c_jlies x0 y0 h1) (fun k3 => ?_) (fun k3 => ?_)
    ·refine CallG.bool (c_jlies x1 y1 h0) (fun k4 => ?_) (fun k4 => ?_)
     ·exact ⟨.inl rfl, FinG.yes rfl rfl (⟨h.1, h.2, .inr ⟨k3, k4⟩⟩)⟩
     ·exact ⟨.inl rfl, FinG.no rfl rfl (fun z => z.2.2.elim (fun z => k1 z.1) (fun z => k4 z.2))⟩
    ·exact ⟨.inl rfl, FinG.no rfl rfl (fun z => z.2.2.elim (fun z => k1 z.1) (fun z => k3 z.1))⟩
  ·refine PickW.mk [17, 18] ?_
   refine Ex.mk _ rfl ?_
   refine Ex.mk _ rfl ?_
   refine Ex.mk _ rfl ?_
   refine Ex.mk _ rfl ?_
   refine Ex.mk _ rfl ?_
   refine Ex.mk _ rfl ?_
   refine Ex.mk _ rfl ?_
   refine Ex.mk _ rfl ?_
   refine PickW.mk [31, 32] ?_
   refine Ex.mk _ rfl ?_
   refine Ex.mk _ rfl ?_
   refine Ex.mk _ rfl ?_
   refine Ex.mk _ rfl ?_
   refine CallG.bool (c_jlies x1 y1 h0) (fun k1 => ?_) (fun k1 => ?_)
   ·refine CallG.bool (c_jlies x0 y0 h1) (fun k2 => ?_) (fun k2 => ?_)
    ·exact ⟨.inl rfl, FinG.yes rfl rfl (⟨h.1, h.2, .inl ⟨k1, k2⟩⟩)⟩
    ·refine CallG.bool (c_jlies x1 y1 h1) (fun k3 => ?_) (fun k3 => ?_)
     ·refine CallG.bool (c_jlies x0 y0 h0) (fun k4 => ?_) (fun k4 => ?_)
      ·exact ⟨.inl rfl, FinG.yes rfl rfl (⟨h.1, h.2, .inr ⟨k3, k4⟩⟩)⟩
      ·exact ⟨.inl rfl, FinG.no rfl rfl (fun z => z.2.2.elim (fun z => k2 z.2) (fun z => k4 z.2))⟩
     ·exact ⟨.inl rfl, FinG.no rfl rfl (fun z => z.2.2.elim (fun z => k2 z.2) (fun z => k3 z.1))⟩
   ·refine CallG.bool (c_jlies x1 y1 h1) (fun k3 => ?_) (fun k3 => ?_)
    ·refine CallG.bool (c_jlies x0 y0 h0) (fun k4 => ?_) (fun k4 => ?_)
     ·exact ⟨.inl rfl, FinG.yes rfl rfl (⟨h.1, h.2, .inr ⟨k3, k4⟩⟩)⟩
     ·exact ⟨.inl rfl, FinG.no rfl rfl (fun z => z.2.2.elim (fun z => k1 z.1) (fun z => k4 z.2))⟩
    ·exact ⟨.inl rfl, FinG.no rfl rfl (fun z => z.2.2.elim (fun z => k1 z.1) (fun z => k3 z.1))⟩
theorem c_jfine {st : Int} {a b : LimbD} {e h0 h1 : FieldD} {r0 r1 : Int} (hf : figOk st a b) (hs : stageOk e h0 h1 r0 r1) {p q : Int} (hp : poseOk a b p q) (H : List Blk) :
  ACall Tryz.prog 46 [eK st a b e h0 h1 r0 r1, eP p q] H (.ret (.lit (.bool (decide (fineI st a b e h0 h1 r0 p q))))) H :=
 c_jfineE hs (c_jends hf hp) H
set_option maxRecDepth 100000 in
theorem c_jFine {st : Int} {a b : LimbD} {e h0 h1 : FieldD} {r0 r1 : Int} (hf : figOk st a b) (hs : stageOk e h0 h1 r0 r1) {p q : Int} (hp : poseOk a b p q) (H : List Blk) :
  ACall Tryz.prog 12 [eFig st a b, eStage e h0 h1 r0 r1, eP p q] H (.ret (.tup [.lit (.bool (decide (fineI st a b e h0 h1 r0 p q))), n' 0])) H := by
 refine fn_rule (m := false) (fn := Tryz.f12) (c := (Tryz.f12.body).getD .skip) mixed (by kernel_rfl) (by kernel_rfl) (of_decide_eq_true (by kernel_rfl)) ?_ ?_ ?_ H
 ·exact ⟨under_eFig _ _ _ _, under_eStage _ _ _ _ _ _, under_eP _ _ _, trivial⟩
 ·exact ⟨trivial, trivial, trivial⟩
 ·refine CallG.pure _ (c_jfigure hf) ?_
  refine CallG.pure _ (c_jstage st a b hs) ?_
  refine CallG.bool (c_jpose st a b p q) (fun _ => ?_) (fun h => absurd hp h)
  refine ifN ?_
  refine CallG.pure _ (c_jfine hf hs hp) ?_
  exact ⟨.inl rfl, FinG.mk _ rfl rfl rfl⟩
end Go.Vm

namespace Go.Vm
open Go.Proofs
theorem lits_rel {O O' : Outer} {S S' : Sit} : ∀ {xs : List AV} {cs : List Value}, (∀ a ∈ xs, ∃ v, a = .lit v) → @VRels O S xs cs → @VRels O' S' xs cs
 | [], [], _, _ => by simp [VRels]
 | [], _ :: _, _, x => by simp [VRels] at x
 | _ :: _, [], _, x => by simp [VRels] at x
 | a :: xs, c :: cs, h, x => by
  simp only [VRels] at x ⊢
  obtain ⟨v, rfl⟩ := h a (by simp)
  have x1 := x.1
  simp only [VRel] at x1 ⊢
  exact ⟨x1, lits_rel (fun a ha => h a (by simp [ha])) x.2⟩
theorem map_moved {O O' : Outer} {S S' : Sit} {b wm wm' : Nat} {sh : KeyShape} {es : List (Value × AV)} (h : @BlkRel O S b wm (.map sh es)) (hes : ∀ p ∈ es, ∃ v, p.2 = .lit v) (hw : S'.w = S.w) : @BlkRel O' S' b wm' (.map sh es) := by
 obtain ⟨E, c, h1, ⟨es2, hp, k1, k2⟩, keys, nodup, stamps, born⟩ := h
 refine ⟨E, c, by rw [hw]; exact h1, ⟨es2, hp, k1, ?_⟩, keys, nodup, stamps, born⟩
 refine lits_rel (fun a ha => ?_) k2
 obtain ⟨p, hp2, rfl⟩ := List.mem_map.1 ha
 exact hes p (hp.mem_iff.1 hp2)
theorem ACall.frame_map {P : Program} {f : FuncId} {args : List AV} {sh : KeyShape} {es : List (Value × AV)} (h : ACall P f args [] (.ret (.mp 0)) [.map sh es]) (ha : AV.unders 0 args) (hes : ∀ p ∈ es, ∃ v, p.2 = .lit v) (H : List Blk) : ACall P f args H (.ret (.mp H.length)) (H ++ [.map sh es]) := by
 intro O ι w cs hR hargs
 have hR1 : @Rel O ⟨H, ι, w⟩ := hR
 have cut_none : ∀ {id : Nat} {p : Nat × Nat}, cutι ι 0 id = some p → False := fun {id p} e => by simp [cutι] at e
 have spec1 : ∀ {id b wm : Nat}, ι id = some (b, wm) → (hideO O H ι 0).out b = some (match H[id]? with | some (.row _) => some wm | _ => none) := fun hi => hideO_named hR1.inj (Nat.zero_le _) hi
 have spec2 : ∀ {b : Nat}, (∀ id wm, ι id ≠ some (b, wm)) → (hideO O H ι 0).out b = O.out b := fun hx => hideO_other fun id wm _ => hx id wm
 have p0 : Pass O (hideO O H ι 0) H [] ι (cutι ι 0) w 0 := by
  refine ⟨fun id hlt => absurd hlt (Nat.not_lt_zero _), fun id hlt => absurd hlt (Nat.not_lt_zero _), fun b lim hF => ?_⟩
  obtain ⟨C, t, f, a, hl, r, ro⟩ := hF
  refine ⟨C, t, f, a, hl, fun id wm e => (cut_none (id := id) e).elim, fun x e => ?_⟩
  by_cases hx : ∃ id wm, ι id = some (b, wm)
  ·obtain ⟨id, wm, hi⟩ := hx
   rw [spec1 hi] at e
   obtain ⟨⟨g, hg⟩, hlw⟩ := r id wm hi
   have hg' : H[id]? = some (.row g) := hg
   rw [hg'] at e
   cases e
   exact ⟨wm, rfl, hlw⟩
  ·rw [spec2 fun id wm hi => hx ⟨id, wm, hi⟩] at e
   exact ro x e
 have hR0 : @Rel (hideO O H ι 0) ⟨[], cutι ι 0, w⟩ := by
  refine @Rel.mk (hideO O H ι 0) _ (fun id b wm e => (cut_none (id := id) e).elim) (fun i j b wm wm' ei ej => (cut_none (id := i) ei).elim) (fun b x e => ⟨?_, fun i wm1 e1 => cut_none (id := i) e1⟩)
  by_cases hx : ∃ id wm, ι id = some (b, wm)
  ·obtain ⟨id, wm, hi⟩ := hx
   exact hR1.block hi
  ·have e' : O.out b = some x := by rw [← spec2 fun id wm hi => hx ⟨id, wm, hi⟩]; exact e
   exact (hR1.out b x e').1
 have hargs0 := VRels.pass p0 args cs.toList ha hargs
 have hcall := h (hideO O H ι 0) (cutι ι 0) w cs hR0 hargs0
 refine hcall.mono ?_
 rintro e w' ⟨ι', hend, hR', hev, hnon⟩
 have hR1' : @Rel (hideO O H ι 0) ⟨[.map sh es], ι', w'⟩ := hR'
 have hsame : ∀ {id b wm : Nat}, ι id = some (b, wm) → w'.heap[b]? = w.heap[b]? := fun hi => @Ev.out (hideO O H ι 0) _ _ hev _ _ (spec1 hi)
 have nohide : ∀ {b : Nat} {x : Option Nat}, O.out b = some x → (hideO O H ι 0).out b = some x := fun {b x} e => by
  rw [spec2 fun id wm hi => (hR1.out b x e).2 id wm hi]; exact e
 obtain ⟨ι2, hι2⟩ : ∃ ι2 : Nat → Option (Nat × Nat), ι2 = fun id => if id < H.length then ι id else if id = H.length then ι' 0 else none := ⟨_, rfl⟩
 have nlt : ∀ id, id < H.length → ι2 id = ι id := fun id hlt => by rw [hι2]; simp [hlt]
 have nat0 : ι2 H.length = ι' 0 := by rw [hι2]; simp
 have ngt : ∀ id, H.length < id → ι2 id = none := fun id hlt => by
  rw [hι2]
  show (if id < H.length then ι id else if id = H.length then ι' 0 else none) = none
  rw [if_neg (by omega), if_neg (by omega)]
 have look : ∀ id, id < H.length → (H ++ [Blk.map sh es])[id]? = H[id]? := fun id hlt => List.getElem?_append_left hlt
 have last : (H ++ [Blk.map sh es])[H.length]? = some (.map sh es) := by simp
 have hrest : Rest w w' := @Ev.rest (hideO O H ι 0) _ _ hev
 have hev' : @Ev O ⟨H, ι, w⟩ ⟨H ++ [.map sh es], ι2, w'⟩ := by
  refine @Ev.mk O _ _ (fun id hn => ?_) (fun b lim hF => ?_) (fun id g0 hg => ?_) (fun id g0 c0 hg => ?_) (fun b x e => @Ev.out (hideO O H ι 0) _ _ hev b x (nohide e)) hrest (fun b x => ?_)
  ·obtain ⟨B, hB, hr⟩ := hn
   have hlt := (List.getElem?_eq_some_iff.1 hB).1
   exact ⟨⟨B, (look id hlt).trans hB, hr⟩, fun b wm e => ⟨wm, (nlt id hlt).trans e⟩⟩
  ·obtain ⟨k1, k2⟩ := @Ev.fix (hideO O H ι 0) _ _ hev b lim (p0.fix b lim hF)
   refine ⟨?_, k2⟩
   obtain ⟨C, t, f, a, hl, r, ro⟩ := k1
   refine ⟨C, t, f, a, hl, fun id wm e => ?_, fun x e => ro x (nohide e)⟩
   have e1 : ι2 id = some (b, wm) := e
   rcases Nat.lt_trichotomy id H.length with hlt | he | hgt
   ·rw [nlt id hlt] at e1
    obtain ⟨l, hl1, hl2⟩ := ro _ (spec1 e1)
    have key : (∃ g, H[id]? = some (.row g)) ∧ l = wm := by
     split at hl1
     ·rename_i g hg; cases hl1; exact ⟨⟨g, hg⟩, rfl⟩
     ·cases hl1
    obtain ⟨⟨g, hg⟩, rfl⟩ := key
    exact ⟨⟨g, (look id hlt).trans hg⟩, hl2⟩
   ·rw [he, nat0] at e1
    obtain ⟨⟨g, hg⟩, _⟩ := r 0 wm e1
    have hg' : ([Blk.map sh es])[0]? = some (.row g) := hg
    cases hg'
   ·rw [ngt id hgt] at e1
    cases e1
  ·have hlt := (List.getElem?_eq_some_iff.1 hg).1
   exact ⟨g0, (look id hlt).trans hg, Nat.le_refl _, fun _ => ⟨nlt id hlt, fun b wm C t hi hC => ⟨C, t, (hsame hi).trans hC, rfl⟩⟩⟩
  ·have hlt := (List.getElem?_eq_some_iff.1 hg).1
   exact ⟨_, g0, (look id hlt).trans hg, rfl, Nat.le_refl _, fun _ => ⟨⟨c0, rfl⟩, nlt id hlt, fun b wm C t hi hC => ⟨C, t, (hsame hi).trans hC, rfl⟩⟩⟩
  ·obtain ⟨k1, k2⟩ := @Ev.mark (hideO O H ι 0) _ _ hev b ⟨x.1, fun id wm e => by
    have e' : cutι ι 0 id = some (b, wm) := e
    unfold cutι at e'
    split at e'
    ·omega
    ·cases e'⟩
   refine ⟨k1, fun id wm e => ?_⟩
   have e1 : ι2 id = some (b, wm) := e
   rcases Nat.lt_trichotomy id H.length with hlt | he | hgt
   ·rw [nlt id hlt] at e1; exact x.2 id wm e1
   ·rw [he, nat0] at e1; exact k2 0 wm e1
   ·rw [ngt id hgt] at e1; cases e1
 refine ⟨ι2, ?_, ?_, hev', fun id hn hnone => ?_⟩
 ·cases e with
  | returned c =>
   have hend' : @VRel (hideO O H ι 0) ⟨[.map sh es], ι', w'⟩ (.mp 0) c := hend
   simp only [VRel] at hend'
   obtain ⟨b, wm, hi, _, hc⟩ := hend'
   show @VRel O ⟨H ++ [.map sh es], ι2, w'⟩ (.mp H.length) c
   simp only [VRel]
   exact ⟨b, wm, nat0.trans hi, ⟨_, last, rfl⟩, hc⟩
  | panicked chain => exact hend.elim
  | outgrown => exact hend.elim
 ·refine @Rel.mk O _ (fun id b wm e => ?_) (fun i j b wm wm' ei ej => ?_) (fun b x e => ?_)
  ·have e1 : ι2 id = some (b, wm) := e
   rcases Nat.lt_trichotomy id H.length with hlt | he | hgt
   ·rw [nlt id hlt] at e1
    obtain ⟨B, hB, hr⟩ := hR1.blk id b wm e1
    exact ⟨B, (look id hlt).trans hB, hr.ev hev' (hsame e1)⟩
   ·rw [he, nat0] at e1
    obtain ⟨B, hB, hr⟩ := @Rel.blk (hideO O H ι 0) _ hR1' 0 b wm e1
    have hB' : ([Blk.map sh es])[0]? = some B := hB
    cases hB'
    exact ⟨_, by rw [he]; exact last, map_moved hr hes rfl⟩
   ·rw [ngt id hgt] at e1
    cases e1
  ·have ei1 : ι2 i = some (b, wm) := ei
   have ej1 : ι2 j = some (b, wm') := ej
   rcases Nat.lt_trichotomy i H.length with h1 | h1 | h1
   ·rw [nlt i h1] at ei1
    rcases Nat.lt_trichotomy j H.length with h2 | h2 | h2
    ·rw [nlt j h2] at ej1
     exact hR1.inj i j b wm wm' ei1 ej1
    ·rw [h2, nat0] at ej1
     exact absurd ej1 ((@Rel.out (hideO O H ι 0) _ hR1' b _ (spec1 ei1)).2 0 wm')
    ·rw [ngt j h2] at ej1; cases ej1
   ·rw [h1, nat0] at ei1
    rcases Nat.lt_trichotomy j H.length with h2 | h2 | h2
    ·rw [nlt j h2] at ej1
     exact absurd ei1 ((@Rel.out (hideO O H ι 0) _ hR1' b _ (spec1 ej1)).2 0 wm)
    ·rw [h1, h2]
    ·rw [ngt j h2] at ej1; cases ej1
   ·rw [ngt i h1] at ei1; cases ei1
  ·obtain ⟨k1, k2⟩ := @Rel.out (hideO O H ι 0) _ hR1' b x (nohide e)
   refine ⟨k1, fun id wm hi => ?_⟩
   have hi1 : ι2 id = some (b, wm) := hi
   rcases Nat.lt_trichotomy id H.length with h1 | h1 | h1
   ·rw [nlt id h1] at hi1
    exact (hR1.out b x e).2 id wm hi1
   ·rw [h1, nat0] at hi1
    exact k2 0 wm hi1
   ·rw [ngt id h1] at hi1; cases hi1
 ·obtain ⟨B, hB, _⟩ := hn
  have hlt := (List.getElem?_eq_some_iff.1 hB).1
  exact (nlt id hlt).trans hnone
theorem fn_ruleN {P : Program} {m : Bool} {f : FuncId} {fn : Func} {c : Code} {args : List AV} {sh : KeyShape} (Pr : List (Value × AV) → Prop) (hm : P.follows .mixedOrders = true) (hf : P.funcs[f]? = some fn) (hb : fn.body = some c) (hn : args.length ≤ fn.ntmps) (ha : AV.unders 0 args)
  (h : gCode P m fn.ntmps none c (initVars 0 args) .nil 0 [] noLo fun x e _ => (x = .ret ∨ x = .normal) ∧ e.defs = [] ∧ ∃ id es, resT P (get e.t) e.vars fn.results.toList = some [.mp id] ∧ get e.t id = some (.map sh es) ∧ (∀ p ∈ es, ∃ v, p.2 = .lit v) ∧ Pr es) :
  ∃ es, Pr es ∧ ∀ H, ACall P f args H (.ret (.mp H.length)) (H ++ [.map sh es]) := by
 obtain ⟨x, e, lo, H', hH', hk', hrun, hx, hd, id, es, hres, hg, hes, hP⟩ := gCode_spec hm c _ _ _ _ _ _ h [] [] HT.nil (Keep.refl _ _)
 have hcr : ACall P f args [] (.ret (.mp id)) H' := by
  rw [hd] at hrun
  exact ACall.intro_marks hf hb hn hrun hx List.nodup_nil (resT_sound hH' hres)
 have hB := hH'.blk _ _ hg
 refine ⟨es, hP, fun H => ACall.frame_map ?_ ha hes H⟩
 intro O ι w cs hR hargs
 refine (hcr O ι w cs hR hargs).mono ?_
 rintro e w' ⟨ι', hend, hR', hev, hnon⟩
 cases e with
 | panicked chain => exact hend.elim
 | outgrown => exact hend.elim
 | returned c =>
  have hend' : VRel ⟨H', ι', w'⟩ (.mp id) c := hend
  simp only [VRel] at hend'
  obtain ⟨b, wm, hi, _, hc⟩ := hend'
  obtain ⟨ι2, hι2⟩ : ∃ ι2 : Nat → Option (Nat × Nat), ι2 = fun j => if j = 0 then ι' id else none := ⟨_, rfl⟩
  have e0 : ι2 0 = ι' id := by rw [hι2]; rfl
  have es' : ∀ {j : Nat} {p : Nat × Nat}, ι2 j = some p → j = 0 ∧ ι' id = some p := fun {j p} e => by
   by_cases hj : j = 0
   ·subst hj
    exact ⟨rfl, e0 ▸ e⟩
   ·rw [hι2] at e
    simp [hj] at e
  refine ⟨ι2, ?_, ⟨fun j b' wm' e => ?_, fun i j b' wm1 wm2 ei ej => ?_, fun b' x' e => ?_⟩, ⟨fun j hn => ?_, fun b' lim hF => ?_, fun j g0 hg0 => ?_, fun j g0 c0 hg0 => ?_, hev.out, hev.rest, fun b' x' => ⟨(hev.mark b' x').1, fun j wm1 e1 => (hev.mark b' x').2 id wm1 (es' e1).2⟩⟩, fun j hn => ?_⟩
  ·show VRel ⟨[.map sh es], ι2, w'⟩ (.mp 0) c
   simp only [VRel]
   exact ⟨b, wm, e0.trans hi, ⟨_, rfl, rfl⟩, hc⟩
  ·obtain ⟨hj, e1⟩ := es' e
   subst hj
   obtain ⟨B, hB2, hr⟩ := hR'.blk id b' wm' e1
   have hB3 : H'[id]? = some B := hB2
   rw [hB] at hB3; cases hB3
   exact ⟨_, rfl, map_moved hr hes rfl⟩
  ·rw [(es' ei).1, (es' ej).1]
  ·obtain ⟨k1, k2⟩ := hR'.out b' x' e
   exact ⟨k1, fun j wm1 e1 => k2 id wm1 (es' e1).2⟩
  ·obtain ⟨B, hB2, _⟩ := hn
   have hB3 : ([] : List Blk)[j]? = some B := hB2
   simp at hB3
  ·obtain ⟨⟨C, t, f, a, hl, r, ro⟩, k2⟩ := hev.fix b' lim hF
   refine ⟨⟨C, t, f, a, hl, fun j wm1 e1 => ?_, ro⟩, k2⟩
   obtain ⟨⟨g, hg1⟩, _⟩ := r id wm1 (es' e1).2
   have hg2 : H'[id]? = some (.row g) := hg1
   rw [hB] at hg2; cases hg2
  ·have hB3 : ([] : List Blk)[j]? = some (.row g0) := hg0
   simp at hB3
  ·have hB3 : ([] : List Blk)[j]? = some (.mrow g0 c0) := hg0
   simp at hB3
  ·obtain ⟨B, hB2, _⟩ := hn
   have hB3 : ([] : List Blk)[j]? = some B := hB2
   simp at hB3
theorem CallG.map {P : Program} {f : FuncId} {args : List AV} {sh : KeyShape} {es : List (Value × AV)} {t : Trie Blk} {n : Nat} {K Kp : AV → Trie Blk → Nat → Nat → Prop} (h : ∀ H, ACall P f args H (.ret (.mp H.length)) (H ++ [.map sh es]))
  (k : K (.mp n) (set t n (.map sh es)) (n + 1) noLo) : CallG P f args t n K Kp :=
 .ret fun H hH => by
  have hl := hH.len
  have hc := h H
  rw [hl] at hc
  exact ⟨.mp n, _, n + 1, noLo, H ++ [.map sh es], hH.push _, hc, Keep.append _ _ _, k⟩
end Go.Vm

namespace Go.Vm
open Go.Proofs
abbrev Pt := Nat × Bool
def flI (f : Bool) : Int := if f then 1 else 0
def ptA (p : Pt) : List AV := [n' (p.1 : Nat), n' (flI p.2)]
theorem under_ptA (n : Nat) (p : Pt) : AV.unders n (ptA p) := ⟨trivial, trivial, trivial⟩
def ptV (p : Pt) : Value := .agg #[.int .i64 (p.1 : Nat), .int .i64 (flI p.2)]
theorem ptV_inj {p q : Pt} : veq (ptV p) (ptV q) = true ↔ p = q := by
 obtain ⟨a, e⟩ := p
 obtain ⟨a', e'⟩ := q
 simp only [ptV, veq, veqs, Bool.and_true, Bool.and_eq_true, decide_eq_true_eq]
 refine ⟨fun ⟨h1, h2⟩ => ?_, fun h => by cases h; exact ⟨rfl, rfl⟩⟩
 obtain rfl : a = a' := by omega
 cases e <;> cases e' <;> first | rfl | (exfalso; simp [flI] at h2)
def ptE (met : List Pt) : List (Value × AV) := met.map fun p => (ptV p, tv)
theorem mlook_pt {p : Pt} : ∀ {met : List Pt}, mlook (ptE met) (ptV p) = if p ∈ met then some tv else none
 | [] => rfl
 | q :: met => by
  have ih := mlook_pt (p := p) (met := met)
  unfold mlook ptE at ih ⊢
  rw [List.map_cons, List.find?_cons]
  by_cases h : veq (ptV q) (ptV p) = true
  ·have := ptV_inj.1 h
   subst this
   simp only [h, Option.map_some]
   rw [if_pos (by simp)]
  ·have hne : ¬ q = p := fun e => h (ptV_inj.2 e)
   have h' : veq (ptV q) (ptV p) = false := by simpa using h
   simp only [h']
   rw [ih]
   by_cases hm : p ∈ met
   ·rw [if_pos hm, if_pos (List.mem_cons_of_mem _ hm)]
   ·rw [if_neg hm, if_neg fun e => (List.mem_cons.1 e).elim (fun e => hne e.symm) hm]
theorem mset_pt {p : Pt} : ∀ {met : List Pt}, p ∉ met → mset (ptE met) (ptV p) tv = ptE (met ++ [p])
 | [], _ => rfl
 | q :: met, h => by
  have hne : ¬ veq (ptV q) (ptV p) = true := fun e => h (by rw [ptV_inj.1 e]; simp)
  show (if veq (ptV q) (ptV p) = true then _ else (ptV q, tv) :: mset (ptE met) (ptV p) tv) = _
  rw [if_neg hne, mset_pt fun hm => h (List.mem_cons_of_mem _ hm)]
  rfl
theorem shOk_pt {p : Pt} (h : p.1 ≤ 1000) : shOk (.arr 2) (ptV p) = true := by
 have h1 : isI64 (.int .i64 (p.1 : Nat)) = true := isI64_small (by omega)
 have h2 : isI64 (.int .i64 (flI p.2)) = true := by cases p.2 <;> rfl
 simp only [ptV, shOk]
 simp only [List.all_cons, List.all_nil, h1, h2]
 rfl
theorem aop_lookupP {m : Bool} {g : Nat → Option Blk} {n : Nat} {ρ : Operand → Option AV} {o : Oper} {x k : Operand} {id : Nat} {p : Pt} {met : List Pt} (ho : o.op = .lookup 236 x k false) (hx : ρ x = some (.mp id)) (hk : ρ k = some (.agg (ptA p))) (hg : g id = some (.map (.arr 2) (ptE met))) (hp : p.1 ≤ 1000) :
  aopF Tryz.prog m g n ρ o = some (.val (.lit (.bool (decide (p ∈ met)))) .same) := by
 rw [aopF_fun]
 obtain ⟨dst, op, ty, pos, after, guard⟩ := o
 simp only at ho
 subst ho
 have ht : tmap Tryz.prog 236 = some (.arr 2, 139, 4) := by kernel_rfl
 have hz : tz Tryz.prog 4 = some (.bool false) := by kernel_rfl
 have hc : conc (.agg (ptA p)) = some (ptV p) := rfl
 simp only [aopT, hx, hk, ht, hc, hg, hz, mlook_pt]
 rw [if_pos ⟨rfl, shOk_pt hp⟩]
 by_cases hm : p ∈ met
 ·rw [if_pos hm, decide_eq_true hm]; rfl
 ·rw [if_neg hm, decide_eq_false hm]; rfl
theorem aop_updateP {m : Bool} {g : Nat → Option Blk} {n : Nat} {ρ : Operand → Option AV} {o : Oper} {x k y : Operand} {id : Nat} {p : Pt} {met : List Pt} (ho : o.op = .mapUpdate 236 x k y ∨ o.op = .insert 236 x k y) (hx : ρ x = some (.mp id)) (hk : ρ k = some (.agg (ptA p))) (hy : ρ y = some tv) (hg : g id = some (.map (.arr 2) (ptE met))) (hp : p.1 ≤ 1000) (hm : p ∉ met) :
  aopF Tryz.prog m g n ρ o = some (.val (.lit undef) (.set id (.map (.arr 2) (ptE (met ++ [p]))))) := by
 rw [aopF_fun]
 obtain ⟨dst, op, ty, pos, after, guard⟩ := o
 simp only at ho
 have ht : tmap Tryz.prog 236 = some (.arr 2, 139, 4) := by kernel_rfl
 have hc : conc (.agg (ptA p)) = some (ptV p) := rfl
 rcases ho with rfl | rfl
 ·simp only [aopT, hx, hk, hy, ht, hc, hg, mset_pt hm]
  rw [if_pos ⟨rfl, shOk_pt hp⟩]
 ·simp only [aopT, hx, hk, hy, ht, hc, hg, mset_pt hm]
  rw [if_pos ⟨rfl, shOk_pt hp⟩]
theorem pt_all {n : Nat} (hn : n ≤ 4) {p : Pt} (h : p.1 < n) : p ∈ prodL (List.range 4) r2 := prodL_mem (List.mem_range.2 (by omega)) (r2_mem _)
theorem pt_all_length : (prodL (List.range 4) r2).length = 8 := rfl
def wayP (w : Pt × List Nat) : List AV := ptA w.1 ++ [cuesA w.2]
def waysP (q : List (Pt × List Nat)) : List AV := q.flatMap wayP
theorem waysP_length : ∀ q : List (Pt × List Nat), (waysP q).length = q.length * 3
 | [] => rfl
 | w :: q => by
  have ih := waysP_length q
  unfold waysP at ih ⊢
  rw [List.flatMap_cons, List.length_append, ih, List.length_cons]
  show 3 + q.length * 3 = _
  omega
theorem waysP_snoc (q : List (Pt × List Nat)) (w : Pt × List Nat) : waysP (q ++ [w]) = waysP q ++ wayP w := by
 unfold waysP
 rw [List.flatMap_append, List.flatMap_cons, List.flatMap_nil, List.append_nil]
theorem under_waysP (n : Nat) : ∀ q : List (Pt × List Nat), AV.unders n (waysP q)
 | [] => trivial
 | w :: q => unders_append (unders_append (under_ptA n w.1) ⟨under_cuesA n w.2, trivial⟩) (under_waysP n q)
theorem jx_wayP {w : Pt × List Nat} {q : List (Pt × List Nat)} {tl : Tail} : indexOp Tryz.prog 239 (.sl (w :: q).length (waysP (w :: q)) tl) (.lit (.int .i64 0)) = some (.eptr (wayP w)) := by
 refine (indexOp_sl (elem := 238) (n := 3) (by kernel_rfl) (by kernel_rfl) ⟨by omega, by simp, by rw [waysP_length, List.length_cons]; omega, by omega⟩).trans ?_
 rfl
theorem aop_sliceP {m : Bool} {g : Nat → Option Blk} {n : Nat} {ρ : Operand → Option AV} {o : Oper} {x i : Operand} {w : Pt × List Nat} {q : List (Pt × List Nat)} {id gen : Nat} (ho : o.op = .slice 239 x (some i) none none) (hx : ρ x = some (.sl (w :: q).length (waysP (w :: q)) (.own id gen 3))) (hi : ρ i = some (n' 1)) :
  aopF Tryz.prog m g n ρ o = some (.val (.sl q.length (waysP q) (.own id gen 3)) .same) := by
 rw [aopF_fun]
 obtain ⟨dst, op, ty, pos, after, guard⟩ := o
 simp only at ho
 subst ho
 have hu : Tryz.prog.underlying 239 = some (.slice 238) := by kernel_rfl
 have hs : tsz Tryz.prog 238 = some 3 := by kernel_rfl
 have hl := waysP_length q
 have hlw := waysP_length (w :: q)
 have e : sliceA Tryz.prog 239 (.sl (w :: q).length (waysP (w :: q)) (.own id gen 3)) (some 1) none none = some (.sl q.length (waysP q) (.own id gen 3)) := by
  unfold sliceA
  simp only [hu, hs]
  rw [if_pos ⟨by simp, by simp, by simp, by simp, hlw, by omega⟩]
  have e1 : (waysP (w :: q)).drop (1 * 3) = waysP q := rfl
  simp only [Option.getD_some, Option.getD_none, List.length_cons, Nat.add_sub_cancel]
  rw [e1, List.take_of_length_le (by omega)]
  rfl
 have hn : natOf (some (n' 1)) = some (some 1) := by simp [natOf, n']
 have ha : ∀ H, aop Tryz.prog m H ρ { dst := dst, op := Op.slice 239 x (some i) none none, type := ty, pos := pos, after := after, guard := guard } = some (.val (.sl q.length (waysP q) (.own id gen 3)) H) := fun H => by
  simp only [aop, hx, Option.bind_some, hi, hn, Option.bind_none]
  simp only [natOf, e]
  rfl
 simp only [aopT]
 unfold plainT
 rw [ha]
theorem app_wayP {g : Nat → Option Blk} {n id gen : Nat} {q : List (Pt × List Nat)} {p : Pt} {x : AV} (h2 : q.length < 2097152) (hg : g id = some (.row gen)) (hx : x.one = true) :
  appT Tryz.prog false g n 239 239 (.sl q.length (waysP q) (.own id gen 3)) (.sl 1 (ptA p ++ [x]) .full) = some (.sl (q.length + 1) (waysP q ++ (ptA p ++ [x])) (.own id (gen + 1) 3), .set id (.row (gen + 1))) := by
 refine appT_own (e := 238) (bytes := 40) (z := .agg #[.int .i64 0, .int .i64 0, .slice none 0 0]) (by kernel_rfl) (by kernel_rfl) (by kernel_rfl) (by kernel_rfl) (by kernel_rfl) rfl (by omega) (by rw [waysP_length]) (by omega) hg ?_
 show (true && (true && (x.one && true))) = true
 rw [hx]; rfl
def nextD (v : Vers) (tune : Int) (w : List Int) (p : Pt) (c : Nat) : Pt := if (c : Int) ∈ w then p else ((mv v p.1 c).1.toNat, decide ((mv v p.1 c).2 = tune))
noncomputable def danL (b : Book) (tune : Int) (w : List Int) (v : Vers) : List (Nat × Blk) := [(0, bBox b), (1, .box [n' tune] 3), (2, .box [eInts w] 30), (3, vBox v)]
theorem danL_under (b : Book) (tune : Int) (w : List Int) (v : Vers) : ∀ B ∈ hp (danL b tune w v), B.under 4 := fun B hB => by
 obtain ⟨q, hq, rfl⟩ := List.mem_map.1 hB
 simp only [danL, List.mem_cons, List.not_mem_nil, or_false] at hq
 rcases hq with rfl | rfl | rfl | rfl
 ·exact bBox_under _ _
 ·exact ⟨trivial, trivial⟩
 ·exact ⟨under_eInts _ _, trivial⟩
 ·exact ⟨under_states _ _, trivial⟩
theorem HT.firstL {t : Trie Blk} {n : Nat} {H : List Blk} {L : List (Nat × Blk)} (hH : HT t n H) (hL : Numd 0 L) (hb : Blks (get t) noLo L) : ∃ H2, H = hp L ++ H2 := by
 have e0 : H.take L.length = hp L := take_full hL fun q hq => hH.blk _ _ (hb.mem q hq).1
 exact ⟨H.drop L.length, by rw [← e0, List.take_append_drop]⟩
set_option maxRecDepth 100000 in
theorem c_dgDone (p : Pt) (H : List Blk) : ACall Tryz.prog 111 [.agg (ptA p)] H (.ret (nb p.2)) H := by
 refine fn_rule (m := false) (fn := Tryz.f111) (c := (Tryz.f111.body).getD .skip) mixed (by kernel_rfl) (by kernel_rfl) (of_decide_eq_true (by kernel_rfl)) ?_ ?_ ?_ H
 ·exact ⟨under_ptA 0 _, trivial⟩
 ·trivial
 ·obtain ⟨s, f⟩ := p
  cases f with
  | true =>
   refine If.mk (fun _ => ?_) (fun h => absurd (rfl) h)
   exact ⟨.inl rfl, FinG.mk _ rfl rfl rfl⟩
  | false =>
   refine If.mk (fun h => absurd h (by show ¬ ((0 : Int) = 1); decide)) (fun _ => ?_)
   exact ⟨.inl rfl, FinG.mk _ rfl rfl rfl⟩
set_option maxHeartbeats 4000000 in
set_option maxRecDepth 100000 in
theorem c_dgNext {b : Book} {v : Vers} {k c : Nat} (hv : VersOk v k) (hc : c < k) (tune : Int) (w : List Int) (hw : w.length ≤ 1000000) {p : Pt} (hp0 : p.1 < v.length) (H2 : List Blk) :
  ACall Tryz.prog 107 [.agg (ptA p), n' c, .ptr 2 0, .ptr 3 0, .ptr 1 0] (hp (danL b tune w v) ++ H2) (.ret (.agg (ptA (nextD v tune w p c)))) (hp (danL b tune w v) ++ H2) := by
 refine fn_pre (m := false) (fn := Tryz.f107) (c := (Tryz.f107.body).getD .skip) (t0 := ofL (danL b tune w v)) (n0 := 4) mixed (by kernel_rfl) (by kernel_rfl) (of_decide_eq_true (by kernel_rfl)) (HT.full (l := danL b tune w v) ⟨rfl, rfl, rfl, rfl, trivial⟩ rfl) ?_ (danL_under b tune w v) rfl ?_ H2
 ·exact ⟨under_ptA 4 _, trivial, ltb rfl, ltb rfl, ltb rfl, trivial⟩
 obtain ⟨s, f⟩ := p
 obtain ⟨x, hx1, hx2, hx3, hx4⟩ := mv_at (s := s) (c := c) hv hp0 hc
 refine CallG.bool (c_contains w (c : Nat) (by omega)) (fun h => ?_) (fun h => ?_)
 ·refine ifY ?_
  have e : nextD v tune w (s, f) c = (s, f) := if_pos h
  rw [e]
  exact ⟨.inl rfl, leb rfl, FinF.mk _ rfl rfl rfl⟩
 ·refine ifN ?_
  have e : nextD v tune w (s, f) c = ((mv v s c).1.toNat, decide ((mv v s c).2 = tune)) := if_neg h
  refine CallG.pure _ (c_hears hx1 hx2) ?_
  refine If.mk (fun h1 => ?_) (fun h1 => ?_)
  ·refine ifY ?_
   refine ⟨.inl rfl, leb rfl, FinF.mk _ rfl rfl ?_⟩
   rw [e, decide_eq_true h1]
   show AV.agg [n' (mv v s c).1, n' 1] = .agg [n' (((mv v s c).1.toNat : Nat) : Int), n' 1]
   rw [hx4]
  ·refine ifN ?_
   refine ⟨.inl rfl, leb rfl, FinF.mk _ rfl rfl ?_⟩
   rw [e, decide_eq_false h1]
   show AV.agg [n' (mv v s c).1, n' 0] = .agg [n' (((mv v s c).1.toNat : Nat) : Int), n' 0]
   rw [hx4]
end Go.Vm

namespace Go.Vm
open Go.Proofs
abbrev nxD : AV := .fn (.func 107) [] [.ptr 2 0, .ptr 3 0, .ptr 1 0]
abbrev dnD : AV := .lit (.func (.func 111) #[] #[])
structure BfP where
 q : List (Pt × List Nat)
 met : List Pt
 g : Nat
def BdP (v : Vers) (s : BfP) : Prop := s.met.Nodup ∧ (∀ p ∈ s.met, p.1 < v.length) ∧ s.q.length ≤ s.met.length ∧ (∀ w ∈ s.q, w.2.length < s.met.length ∧ w.1.1 < v.length)
theorem BdP.le {v : Vers} (hs : v.length ≤ 4) {s : BfP} (h : BdP v s) : s.met.length ≤ 8 := by
 rw [← pt_all_length]
 exact nodup_length h.1 fun p hp => pt_all hs (h.2.1 p hp)
theorem wk_beginP {t : Trie Blk} {st : Pt} (hr : get t 6 = some (.row 0)) : Weak t (.sl 1 (ptA st ++ [.lit (.slice none 0 0)]) .full) (.sl 1 (waysP [(st, [])]) (.own 6 0 3)) := fun n H hH O ι w c h => by
 have h1 := WeakH.fullOwnN (H := H) (r := 6) (len := 1) (sz := 3) (cells := ptA st ++ [.lit (.slice none 0 0)]) rfl (hH.blk _ _ hr) O ι w c h
 exact wk_sl (Weaks.snoc (fun H => wk_nil H) (ptA st)) O ι w c h1
theorem wk_wayP {t : Trie Blk} {q : List (Pt × List Nat)} {p : Pt} {l : List Nat} {r id g : Nat} {tl : Tail} :
  Weak t (.sl (q.length + 1) (waysP q ++ (ptA p ++ [.sl ((cuesI l).length + 1) ((cuesI l).map n' ++ [n' r]) tl])) (.own id g 3)) (.sl (q ++ [(p, l ++ [r])]).length (waysP (q ++ [(p, l ++ [r])])) (.own id g 3)) := fun _ H _ => by
 rw [waysP_snoc, List.length_append]
 show WeakH H _ (.sl (q.length + 1) (waysP q ++ (ptA p ++ [cuesA (l ++ [r])])) (.own id g 3))
 rw [← List.append_assoc, ← List.append_assoc]
 refine wk_sl (Weaks.snoc (fun H => ?_) _)
 unfold cuesA
 rw [cuesI_snoc]
 exact wk_snocI H
theorem under_ptE (n : Nat) : ∀ met : List Pt, AV.unders n ((ptE met).map (·.2))
 | [] => trivial
 | _ :: met => ⟨trivial, under_ptE n met⟩
def stpP (v : Vers) (tune : Int) (wo : List Int) (x : Pt) (l : List Nat) (s : BfP) : Nat → BfP
 | 0 => s
 | r + 1 => if nextD v tune wo x r ∈ (stpP v tune wo x l s r).met then stpP v tune wo x l s r else ⟨(stpP v tune wo x l s r).q ++ [(nextD v tune wo x r, l ++ [r])], (stpP v tune wo x l s r).met ++ [nextD v tune wo x r], (stpP v tune wo x l s r).g + 1⟩
theorem nextD_lt {v : Vers} {k c : Nat} (hv : VersOk v k) (hc : c < k) {tune : Int} {wo : List Int} {p : Pt} (h : p.1 < v.length) : (nextD v tune wo p c).1 < v.length := by
 unfold nextD
 split
 ·exact h
 ·obtain ⟨_, _, _, h3, _⟩ := mv_at (s := p.1) (c := c) hv h hc
  exact h3
set_option maxHeartbeats 8000000 in
set_option maxRecDepth 100000 in
theorem c_firstP {b : Book} {v : Vers} {k : Nat} (hv : VersOk v k) (hk : b.cues = k) (hk4 : k ≤ 4) (hv4 : v.length ≤ 4) (tune : Int) (wo : List Int) (hwo : wo.length ≤ 1000000) {st : Pt} (hst : st.1 < v.length) :
  ∃ u, (∃ o, u = firstV o ∧ Found (nextD v tune wo) (fun p : Pt => p.2 = true) st k o) ∧ ∀ H2, ACall Tryz.prog 110 [.agg (ptA st), n' b.cues, nxD, dnD] (hp (danL b tune wo v) ++ H2) (.ret u) (hp (danL b tune wo v) ++ H2) := by
 refine fn_preE (m := false) (fn := Tryz.f110) (c := (Tryz.f110.body).getD .skip) (t0 := ofL (danL b tune wo v)) (n0 := 4) _ mixed (by kernel_rfl) (by kernel_rfl) (of_decide_eq_true (by kernel_rfl)) (HT.full (l := danL b tune wo v) ⟨rfl, rfl, rfl, rfl, trivial⟩ rfl) ?_ (danL_under b tune wo v) ?_
 ·exact ⟨under_ptA 4 _, trivial, ⟨trivial, ltb rfl, ltb rfl, ltb rfl, trivial⟩, trivial, trivial⟩
 ·refine Ex.mk _ (aop_updateP (p := st) (met := []) (id := 5) (.inr rfl) rfl rfl rfl rfl (by omega) (by simp)) ?_
  refine LoopG.ghost (LoopG.at (n0 := 7) rfl ?_)
  refine loop_r mixed (m := false) (α := { s : BfP // (∃ proc, InvO (nextD v tune wo) (fun p : Pt => p.2 = true) st k s.q s.met proc) ∧ BdP v s }) (fun a => [(1, n' b.cues), (2, nxD), (3, dnD), (10, .mp 5), (11, .sl a.1.q.length (waysP a.1.q) (.own 6 a.1.g 3))]) (fun a => danL b tune wo v ++ [(5, .map (.arr 2) (ptE a.1.met)), (6, .row a.1.g)]) (fun a => a.1.q.length + (8 - a.1.met.length)) 5
   ⟨⟨[(st, [])], [st], 0⟩, ⟨_, InvO.begin⟩, ⟨by simp, fun p hp => ?_, by simp, fun w hw => ?_⟩⟩ (leb rfl) ?_ ?_ ?_
  ·rw [List.mem_singleton] at hp; subst hp; exact hst
  ·rw [List.mem_singleton] at hw; subst hw; exact ⟨by simp, hst⟩
  ·exact ⟨wp rfl trivial, ⟨_, rfl, Weak.refl _ _, trivial, ltb rfl, ltb rfl, ltb rfl, trivial⟩, wp rfl trivial, wp rfl (ltb rfl), ⟨_, rfl, wk_beginP rfl, under_waysP _ _, ltb rfl⟩, trivial⟩
  ·exact ⟨bk rfl rfl, bk rfl rfl, bk rfl rfl, bk rfl rfl, bk rfl rfl, bk rfl rfl, trivial⟩
  ·rintro ⟨⟨q, met, g⟩, ⟨proc, hI⟩, hb⟩
   have hml := hb.le hv4
   cases q with
   | nil =>
    refine If.mk (fun h => absurd h (by show ¬ ((0 : Int) < 0); decide)) (fun _ => ?_)
    refine ifN ?_
    refine ⟨leb rfl, ?_⟩
    exact ⟨.inl rfl, leb rfl, rfl, _, firstV none, rfl, (fun H => wk_tup2F (wk_nil H)), under_firstV _ _, none, rfl, hI.nothing⟩
   | cons w q =>
    obtain ⟨x, l⟩ := w
    refine If.mk (fun _ => ?_) (fun h => absurd (by rw [List.length_cons]; omega) h)
    refine ifY ?_
    refine Ex.mk _ (jx_wayP) ?_
    refine Ex.mk _ rfl ?_
    refine Ex.mk _ (aop_sliceP (w := (x, l)) (q := q) rfl rfl rfl) ?_
    obtain ⟨hb1, hb2, hb3, hb4⟩ := hb
    have hb2 : ∀ p ∈ met, p.1 < v.length := hb2
    have hb1 : met.Nodup := hb1
    have hb3 : ((x, l) :: q).length ≤ met.length := hb3
    have hb4 : ∀ w ∈ (x, l) :: q, w.2.length < met.length ∧ w.1.1 < v.length := hb4
    have hml : met.length ≤ 8 := hml
    have hI : InvO (nextD v tune wo) (fun p : Pt => p.2 = true) st k ((x, l) :: q) met proc := hI
    obtain ⟨hlx, hPx⟩ := hb4 (x, l) (by simp)
    have hlx : l.length < met.length := hlx
    have hPx : x.1 < v.length := hPx
    refine CallG.pure (nb x.2) (c_dgDone x) ?_
    refine IfB.mk (fun hd => ?_) (fun hd => ?_)
    ·exact ⟨leb rfl, .inl rfl, leb rfl, rfl, _, firstV (some l), rfl, (fun H => WeakH.refl _ H), under_firstV _ _, some l, rfl, hI.found hd⟩
    ·have hI0 := hI.take (by rw [hd]; decide)
     refine LoopG.at (n0 := 8) rfl (loop_up mixed (m := false) (fun r => [(1, n' b.cues), (2, nxD), (3, dnD), (10, .mp 5), (11, .sl (stpP v tune wo x l ⟨q, met, g⟩ r).q.length (waysP (stpP v tune wo x l ⟨q, met, g⟩ r).q) (.own 6 (stpP v tune wo x l ⟨q, met, g⟩ r).g 3)), (12, .ptr 7 0), (35, n' b.cues), (36, n' r)])
      (fun r => danL b tune wo v ++ [(5, .map (.arr 2) (ptE (stpP v tune wo x l ⟨q, met, g⟩ r).met)), (6, .row (stpP v tune wo x l ⟨q, met, g⟩ r).g), (7, .box (wayP (x, l)) 238)])
      (fun r => InvI (nextD v tune wo) (fun p : Pt => p.2 = true) st k x l r (stpP v tune wo x l ⟨q, met, g⟩ r).q (stpP v tune wo x l ⟨q, met, g⟩ r).met proc ∧ BdP v (stpP v tune wo x l ⟨q, met, g⟩ r) ∧ (stpP v tune wo x l ⟨q, met, g⟩ r).q.length + met.length = q.length + (stpP v tune wo x l ⟨q, met, g⟩ r).met.length ∧ l.length < (stpP v tune wo x l ⟨q, met, g⟩ r).met.length)
      k 5 (leb rfl) ⟨hI0, ⟨hb1, hb2, ?_, fun w hw => hb4 w (List.mem_cons_of_mem _ hw)⟩, rfl, hlx⟩ ?_ ?_ ?_)
     ·rw [List.length_cons] at hb3; show q.length ≤ met.length; omega
     ·exact ⟨wp rfl trivial, ⟨_, rfl, Weak.refl _ _, trivial, ltb rfl, ltb rfl, ltb rfl, trivial⟩, wp rfl trivial, wp rfl (ltb rfl), ⟨_, rfl, Weak.refl _ _, under_waysP _ _, ltb rfl⟩, wp rfl (ltb rfl), wp rfl trivial, wp rfl trivial, trivial⟩
     ·exact ⟨bk rfl rfl, bk rfl rfl, bk rfl rfl, bk rfl rfl, bk rfl rfl, bk rfl rfl, bk rfl rfl, trivial⟩
     ·intro r hr hJ
      obtain ⟨hJ1, hJ2, hJ3, hJ4⟩ := hJ
      have hstp : stpP v tune wo x l ⟨q, met, g⟩ (r + 1) = if nextD v tune wo x r ∈ (stpP v tune wo x l ⟨q, met, g⟩ r).met then stpP v tune wo x l ⟨q, met, g⟩ r else ⟨(stpP v tune wo x l ⟨q, met, g⟩ r).q ++ [(nextD v tune wo x r, l ++ [r])], (stpP v tune wo x l ⟨q, met, g⟩ r).met ++ [nextD v tune wo x r], (stpP v tune wo x l ⟨q, met, g⟩ r).g + 1⟩ := rfl
      have hke : k = 0 ∨ stpP v tune wo x l ⟨q, met, g⟩ k = stpP v tune wo x l ⟨q, met, g⟩ k := .inr rfl
      generalize hsr : stpP v tune wo x l ⟨q, met, g⟩ r = s at hJ1 hJ2 hJ3 hJ4 hstp ⊢
      obtain ⟨q1, met1, g1⟩ := s
      have hml1 : met1.length ≤ 8 := hJ2.le hv4
      obtain ⟨hn1, hn2, hn3, hn4⟩ := hJ2
      have hn1 : met1.Nodup := hn1
      have hn2 : ∀ p ∈ met1, p.1 < v.length := hn2
      have hn3 : q1.length ≤ met1.length := hn3
      have hn4 : ∀ w ∈ q1, w.2.length < met1.length ∧ w.1.1 < v.length := hn4
      have hJ1 : InvI (nextD v tune wo) (fun p : Pt => p.2 = true) st k x l r q1 met1 proc := hJ1
      have hJ3 : q1.length + met.length = q.length + met1.length := hJ3
      have hJ4 : l.length < met1.length := hJ4
      refine If.mk (fun h1 => ?_) (fun h1 => ?_)
      ·refine ifY ?_
       have hrk : r < k := by omega
       have hPy : (nextD v tune wo x r).1 < v.length := nextD_lt hv hrk hPx
       refine CallG.at (.agg (ptA (nextD v tune wo x r))) (fun H hH => ?_) ?_
       ·obtain ⟨H2, rfl⟩ := hH.firstL (L := danL b tune wo v) ⟨rfl, rfl, rfl, rfl, trivial⟩ ⟨bk rfl rfl, bk rfl rfl, bk rfl rfl, bk rfl rfl, trivial⟩
        exact c_dgNext hv hrk tune wo hwo hPx H2
       refine Ex.mk _ (aop_lookupP (p := nextD v tune wo x r) (met := met1) (id := 5) rfl rfl rfl rfl (by omega)) ?_
       refine IfB.mk (fun hm => ?_) (fun hm => ?_)
       ·have hm' : nextD v tune wo x r ∉ met1 := by simpa using hm
        refine Ex.mk _ (aop_updateP (p := nextD v tune wo x r) (met := met1) (id := 5) (.inl rfl) rfl rfl rfl rfl (by omega) hm') ?_
        have e3 : stpP v tune wo x l ⟨q, met, g⟩ (r + 1) = ⟨q1 ++ [(nextD v tune wo x r, l ++ [r])], met1 ++ [nextD v tune wo x r], g1 + 1⟩ := by rw [hstp]; exact if_neg hm'
        have hcl := cuesI_length l
        refine CallG.fresh (n0 := 21) [cuesA l] (danL b tune wo v ++ [(5, .map (.arr 2) (ptE (met1 ++ [nextD v tune wo x r]))), (6, .row g1), (7, .box (wayP (x, l)) 238), (8, .box (ptA (nextD v tune wo x r)) 139)]) rfl (.cons (fun H => WeakH.refl _ H) .nil) ?_ ?_
        ·exact ⟨bk rfl rfl, bk rfl rfl, bk rfl rfl, bk rfl rfl, bk rfl rfl, bk rfl rfl, bk rfl rfl, bk rfl rfl, trivial⟩
        refine CallG.cloneI (l := cuesI l) (by omega) (leb rfl) ?_
        refine ex_app _ _ (app_int (List.length_map _) (by omega) rfl) ?_
        refine ex_app _ _ (app_wayP (q := q1) (p := nextD v tune wo x r) (by omega) rfl rfl) ?_
        refine Side.mk (fits64 (by omega)) ?_
        have hN := hJ1.new hrk hm'
        refine ⟨leb rfl, rfl, by omega, ?_, ⟨wp rfl trivial, ⟨_, rfl, Weak.refl _ _, trivial, ltb rfl, ltb rfl, ltb rfl, trivial⟩, wp rfl trivial, wp rfl (ltb rfl), ⟨_, rfl, by rw [e3]; exact wk_wayP, under_waysP _ _, ltb rfl⟩, wp rfl (ltb rfl), wp rfl trivial, wp rfl trivial, trivial⟩, ⟨bk rfl rfl, bk rfl rfl, bk rfl rfl, bk rfl rfl, ⟨?_, ltb rfl⟩, ⟨?_, ltb rfl⟩, bk rfl rfl, trivial⟩, ⟨⟨_, rfl, under_ptE _ _⟩, ⟨_, rfl, trivial⟩, ⟨_, rfl, unders_append (under_ptA _ _) ⟨under_cuesA _ _, trivial⟩⟩, trivial⟩⟩
        ·simp only [e3]
         refine ⟨hN, ⟨?_, fun p hp => ?_, ?_, fun w hw => ?_⟩, ?_, ?_⟩
         ·show (met1 ++ [nextD v tune wo x r]).Nodup
          rw [List.nodup_append]
          refine ⟨hn1, by simp, fun a ha c hc hac => ?_⟩
          rw [List.mem_singleton] at hc
          subst hc hac
          exact hm' ha
         ·rcases List.mem_append.1 hp with hp | hp
          ·exact hn2 p hp
          ·rw [List.mem_singleton] at hp; subst hp; exact hPy
         ·show (q1 ++ [_]).length ≤ (met1 ++ [_]).length
          rw [List.length_append, List.length_append]
          exact Nat.add_le_add_right hn3 1
         ·show w.2.length < (met1 ++ [nextD v tune wo x r]).length ∧ _
          rw [List.length_append, List.length_singleton]
          rcases List.mem_append.1 hw with hw | hw
          ·obtain ⟨k1, k2⟩ := hn4 w hw
           exact ⟨by omega, k2⟩
          ·rw [List.mem_singleton] at hw; subst hw
           refine ⟨?_, hPy⟩
           show (l ++ [r]).length < _
           rw [List.length_append, List.length_singleton]
           omega
         ·show (q1 ++ [_]).length + met.length = q.length + (met1 ++ [_]).length
          rw [List.length_append, List.length_append, List.length_singleton, List.length_singleton]
          omega
         ·show l.length < (met1 ++ [_]).length
          rw [List.length_append]
          omega
        ·rw [e3]; rfl
        ·rw [e3]; rfl
       ·have hm' : nextD v tune wo x r ∈ met1 := by simpa using hm
        have e3 : stpP v tune wo x l ⟨q, met, g⟩ (r + 1) = ⟨q1, met1, g1⟩ := by rw [hstp]; exact if_pos hm'
        refine Side.mk (fits64 (by omega)) ?_
        refine ⟨leb rfl, rfl, by omega, ?_, ⟨wp rfl trivial, ⟨_, rfl, Weak.refl _ _, trivial, ltb rfl, ltb rfl, ltb rfl, trivial⟩, wp rfl trivial, wp rfl (ltb rfl), ⟨_, rfl, by rw [e3]; exact Weak.refl _ _, under_waysP _ _, ltb rfl⟩, wp rfl (ltb rfl), wp rfl trivial, wp rfl trivial, trivial⟩, ⟨bk rfl rfl, bk rfl rfl, bk rfl rfl, bk rfl rfl, ⟨?_, ltb rfl⟩, ⟨?_, ltb rfl⟩, bk rfl rfl, trivial⟩, trivial⟩
        ·simp only [e3]
         exact ⟨hJ1.old hm', ⟨hn1, hn2, hn3, hn4⟩, hJ3, hJ4⟩
        ·rw [e3]; rfl
        ·rw [e3]; rfl
      ·refine ifN ?_
       refine ⟨leb rfl, ?_⟩
       have er : r = k := by omega
       subst er
       refine ⟨leb rfl, rfl, ⟨⟨q1, met1, g1⟩, ⟨_, hJ1.over⟩, ⟨hn1, hn2, hn3, hn4⟩⟩, ?_, ⟨wp rfl trivial, ⟨_, rfl, Weak.refl _ _, trivial, ltb rfl, ltb rfl, ltb rfl, trivial⟩, wp rfl trivial, wp rfl (ltb rfl), ⟨_, rfl, Weak.refl _ _, under_waysP _ _, ltb rfl⟩, trivial⟩, ⟨bk rfl rfl, bk rfl rfl, bk rfl rfl, bk rfl rfl, bk rfl rfl, bk rfl rfl, trivial⟩, ⟨⟨_, rfl, under_ptE _ _⟩, ⟨_, rfl, trivial⟩, trivial⟩⟩
       show q1.length + (8 - met1.length) < ((x, l) :: q).length + (8 - met.length)
       rw [List.length_cons]
       omega
end Go.Vm

namespace Go.Vm
open Go.Proofs
set_option maxHeartbeats 4000000 in
set_option maxRecDepth 100000 in
theorem c_dangerW {b : Book} {i : Int} {v : Vers} (hi : 0 ≤ i) (hv : b.vs[i.toNat]? = some v) (hvo : VersOk v b.cues.toNat) (hv0 : 0 < v.length) (hv4 : v.length ≤ 4) (hbc : inI b.cues 1 4) (tune : Int) (wo : List Int) (hwo : wo.length ≤ 1000000) :
  ∃ o, Found (nextD v tune wo) (fun p : Pt => p.2 = true) (0, false) b.cues.toNat o ∧ ∀ H, ACall Tryz.prog 54 [eBook b, n' i, n' tune, eInts wo] H (.ret (firstV o)) H := by
 have hlt := (List.getElem?_eq_some_iff.1 hv).1
 unfold inI at hbc
 obtain ⟨u, ⟨o, rfl, hF⟩, hc⟩ := c_firstP (b := b) (k := b.cues.toNat) hvo (by omega) (by omega) hv4 tune wo hwo (st := (0, false)) hv0
 refine ⟨o, hF, fun H => ?_⟩
 refine fn_rule (m := false) (fn := Tryz.f54) (c := (Tryz.f54.body).getD .skip) mixed (by kernel_rfl) (by kernel_rfl) (of_decide_eq_true (by kernel_rfl)) ?_ ?_ ?_ H
 ·exact ⟨under_eBook 0 _, trivial, trivial, under_eInts 0 _, trivial⟩
 ·exact under_firstV 0 _
 ·refine Ex.mk _ (jx_versions (r := i.toNat) (by omega) hv) ?_
  refine Ex.mk _ rfl ?_
  refine CallG.at (firstV o) (fun H hH => ?_) ?_
  ·obtain ⟨H2, rfl⟩ := hH.firstL (L := danL b tune wo v) ⟨rfl, rfl, rfl, rfl, trivial⟩ ⟨bk rfl rfl, bk rfl rfl, bk rfl rfl, bk rfl rfl, trivial⟩
   exact hc H2
  cases o with
  | none =>
   refine ⟨.inl rfl, FinG.mk _ rfl rfl ?_⟩
   show AV.tup [AV.freeze _ (eInts (cuesI [])), _] = _
   rw [freeze_eInts]
   rfl
  | some l =>
   refine ⟨.inl rfl, FinG.mk _ rfl rfl ?_⟩
   show AV.tup [AV.freeze _ (eInts (cuesI l)), _] = _
   rw [freeze_eInts]
   rfl
def dangV : Option (List Nat) → AV
 | none => .tup [.lit (.slice none 0 0), .lit (.int .i64 5)]
 | some l => .tup [cuesA l, .lit (.int .i64 0)]
theorem under_dangV (n : Nat) (o : Option (List Nat)) : (dangV o).under n := by
 cases o with
 | none => exact ⟨trivial, trivial, trivial⟩
 | some l => exact ⟨under_cuesA n _, trivial, trivial⟩
set_option maxHeartbeats 4000000 in
set_option maxRecDepth 100000 in
theorem c_Danger {b : Book} (hl : BLen b) (hB : BOk b) {i : Int} {v : Vers} (hi : inI i 0 (b.vs.length - 1)) (hv : b.vs[i.toNat]? = some v) {tune : Int} (ht : inI tune 0 (b.tunes - 1)) :
  ∃ o, Found (nextD v tune []) (fun p : Pt => p.2 = true) (0, false) b.cues.toNat o ∧ ∀ H, ACall Tryz.prog 17 [eBook b, n' i, n' tune] H (.ret (dangV o)) H := by
 obtain ⟨hvo, hv0⟩ := (hB.2 v (List.mem_of_getElem? hv)).vers
 have hv4 := (hB.2 v (List.mem_of_getElem? hv)).2
 unfold inI at hv4
 obtain ⟨o, hF, hc⟩ := c_dangerW (b := b) hi.1 hv hvo hv0 (by omega) hB.1.1 tune [] (by simp)
 refine ⟨o, hF, fun H => ?_⟩
 refine fn_rule (m := false) (fn := Tryz.f17) (c := (Tryz.f17.body).getD .skip) mixed (by kernel_rfl) (by kernel_rfl) (of_decide_eq_true (by kernel_rfl)) ?_ ?_ ?_ H
 ·exact ⟨under_eBook 0 _, trivial, trivial, trivial⟩
 ·exact under_dangV 0 _
 ·refine CallG.bool (c_isBook hl) (fun _ => ?_) (fun x => absurd hB x)
  refine CallG.bool (c_hasVersion hB.fit i) (fun _ => ?_) (fun x => absurd hi x)
  refine CallG.bool (c_hasTune hB.fit tune) (fun _ => ?_) (fun x => absurd ht x)
  refine ifN ?_
  cases o with
  | none =>
   refine CallG.weak _ (.cons (fun H => WeakH.refl _ H) (.cons (fun H => WeakH.refl _ H) (.cons (fun H => WeakH.refl _ H) (.cons (fun H => WeakH.nil H) (.nil))))) (hc) ?_
   refine ifY ?_
   exact ⟨.inl rfl, FinG.mk _ rfl rfl rfl⟩
  | some l =>
   refine CallG.weak _ (.cons (fun H => WeakH.refl _ H) (.cons (fun H => WeakH.refl _ H) (.cons (fun H => WeakH.refl _ H) (.cons (fun H => WeakH.nil H) (.nil))))) (hc) ?_
   refine ifN ?_
   refine ⟨.inl rfl, FinG.mk _ rfl rfl ?_⟩
   show AV.tup [AV.freeze _ (eInts (cuesI l)), _] = _
   rw [freeze_eInts]
   rfl
end Go.Vm

namespace Go.Vm
open Go.Proofs
theorem NowR.of {α : Type} {x : Option α} {K : α → Prop} {r : α} (h : x = some r) (k : K r) : NowR x K := by
 subst h
 exact k
end Go.Vm
