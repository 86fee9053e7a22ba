/-
  Texts of the proof, part 20: the machine, contracts of functions, plain laws. (Own work.)
-/
import Derived.Test.YteefbiehcfmoeaaGreatDoorG15DalangParses
import Derived.Test.YteefbiehcfmoeaaGreatDoorG12DalangParses
import Derived.Test.YteefbiehcfmoeaaGreatDoorG19DalangParses
import Derived.Test.YteefbiehcfmoeaaGreatDoorG14DalangParses

namespace Go.Vm
open Go.Proofs Go.RowKit
def joinS (xs : List ByteArray) (sep : ByteArray) : ByteArray := ⟨(Lib.join (xs.map (·.data.toList)) sep.data.toList).toArray⟩
theorem strsOf_map : ∀ xs : List ByteArray, strsOf (xs.map sA) = some xs
 | [] => rfl
 | x :: xs => by
  show (strsOf (xs.map sA)).map (x :: ·) = _
  rw [strsOf_map xs]
  rfl
theorem c_join {xs : List ByteArray} {sep : ByteArray} (tail : Tail) (h2 : xs.length ≤ 65536) (h3 : (joinS xs sep).size ≤ 16777216) (H : List Blk) : ACall Tryz.prog 112 [.sl xs.length (xs.map sA) tail, sA sep] H (.ret (sA (joinS xs sep))) H := by
 have h3 : (Lib.join (xs.map (·.data.toList)) sep.data.toList).length ≤ 16777216 := by
  have : (joinS xs sep).size = (Lib.join (xs.map (·.data.toList)) sep.data.toList).length := rfl
  omega
 refine ACall.of_below fun O ι w cs hR hargs => ?_
 obtain ⟨l⟩ := cs
 match l, hargs with
 | [c1, c2], hargs =>
  simp only [VRels, VRel, sA] at hargs
  obtain ⟨⟨base, cap, rfl, hle, hcells, _⟩, rfl, _⟩ := hargs
  rcases hcells with hx | ⟨b, o, rfl, hf, hr⟩
  ·have hx : xs = [] := List.map_eq_nil_iff.1 hx
   subst hx
   refine (Tryz.strings_Join_none base cap sep w).mono ?_
   rintro e w' ⟨rfl, rfl⟩
   exact ⟨rfl, Below.refl _ _⟩
  ·exact Tryz.strings_Join b o cap xs sep w (strsOf_sound (strsOf_map xs) hr) hf.lt (by omega) (by omega) (by omega)
 | [], hargs => simp [VRels] at hargs
 | [_], hargs => simp [VRels] at hargs
 | _ :: _ :: _ :: _, hargs => simp [VRels] at hargs
theorem bytes_ext {a b : ByteArray} (h : a.data.toList = b.data.toList) : a = b := by
 obtain ⟨⟨a⟩⟩ := a
 obtain ⟨⟨b⟩⟩ := b
 have h : a = b := h
 rw [h]
end Go.Vm

namespace Go.Vm
open Go.Proofs Go.RowKit
def spl (c : UInt8) : List UInt8 → List (List UInt8)
 | [] => [[]]
 | x :: l => if x = c then [] :: spl c l else match spl c l with
  | [] => [[x]]
  | h :: t => (x :: h) :: t
theorem spl_ne (c : UInt8) (l : List UInt8) : spl c l ≠ [] := by
 cases l with
 | nil => simp [spl]
 | cons x l =>
  unfold spl
  split
  ·simp
  ·split <;> simp
theorem spl_none {c : UInt8} : ∀ {l : List UInt8}, l.count c = 0 → spl c l = [l]
 | [], _ => rfl
 | x :: l, h => by
  by_cases e : x = c
  ·subst e
   rw [List.count_cons_self] at h
   omega
  ·rw [List.count_cons_of_ne (by simpa using e)] at h
   unfold spl
   rw [if_neg e, spl_none h]
def idxN (c : UInt8) : List UInt8 → Nat
 | [] => 0
 | x :: l => if x = c then 0 else idxN c l + 1
theorem spl_some {c : UInt8} : ∀ {l : List UInt8}, 0 < l.count c → idxN c l < l.length ∧ Lib.indexByte l c = (idxN c l : Int) ∧ spl c l = l.take (idxN c l) :: spl c (l.drop (idxN c l + 1)) ∧ (l.drop (idxN c l + 1)).count c + 1 = l.count c
 | [], h => by simp at h
 | x :: l, h => by
  by_cases e : x = c
  ·subst e
   have e0 : idxN x (x :: l) = 0 := if_pos rfl
   rw [e0]
   refine ⟨Nat.succ_pos _, ?_, ?_, ?_⟩
   ·unfold Lib.indexByte
    simp
   ·conv => lhs; unfold spl
    rw [if_pos rfl]
    rfl
   ·rw [List.count_cons_self]
    rfl
  ·rw [List.count_cons_of_ne (by simpa using e)] at h ⊢
   obtain ⟨h1, h2, h3, h4⟩ := spl_some h
   have e0 : idxN c (x :: l) = idxN c l + 1 := if_neg e
   rw [e0]
   refine ⟨by rw [List.length_cons]; omega, ?_, ?_, h4⟩
   ·unfold Lib.indexByte
    have hb : (x == c) = false := by simpa using e
    rw [hb, h2]
    have : ((idxN c l : Int) == -1) = false := by
     rw [beq_eq_false_iff_ne]
     omega
    simp [this]
   ·conv => lhs; unfold spl
    rw [if_neg e, h3]
    rfl
theorem spl_length (c : UInt8) : ∀ l : List UInt8, (spl c l).length = l.count c + 1
 | [] => rfl
 | x :: l => by
  have ih := spl_length c l
  unfold spl
  by_cases e : x = c
  ·subst e
   rw [if_pos rfl, List.length_cons, List.count_cons_self, ih]
  ·rw [if_neg e, List.count_cons_of_ne (by simpa using e)]
   cases hs : spl c l with
   | nil => exact absurd hs (spl_ne c l)
   | cons h t =>
    rw [hs] at ih
    exact ih
def bT (l : List UInt8) : ByteArray := ⟨l.toArray⟩
theorem bT_size (l : List UInt8) : (bT l).size = l.length := rfl
theorem bT_extract (l : List UInt8) (a b : Nat) : (bT l).extract a b = bT ((l.take b).drop a) := by
 apply bytes_ext
 show ((bT l).extract a b).data.toList = (l.take b).drop a
 rw [ByteArray.data_extract, Array.toList_extract]
 simp [bT, List.extract_eq_take_drop, List.drop_take]
theorem c_countB (l : List UInt8) (c : UInt8) (H : List Blk) : ACall Tryz.prog 257 [sA (bT l), sA ⟨#[c]⟩] H (.ret (n' (l.count c : Nat))) H :=
 ACall.of_pure (vs := [.string (bT l), .string ⟨#[c]⟩]) fun w => Tryz.strings_Count_one (bT l) c w
theorem c_indexB (l : List UInt8) (c : UInt8) (H : List Blk) : ACall Tryz.prog 258 [sA (bT l), sA ⟨#[c]⟩] H (.ret (n' (Lib.indexByte l c))) H :=
 ACall.of_pure (vs := [.string (bT l), .string ⟨#[c]⟩]) fun w => Tryz.strings_Index_one (bT l) c w
end Go.Vm

namespace Go.Vm
open Go.Proofs
theorem spl_front {c : UInt8} : ∀ {a : List UInt8} (b : List UInt8), c ∉ a → spl c (a ++ c :: b) = a :: spl c b
 | [], b, _ => by
  show spl c (c :: b) = _
  rw [spl, if_pos rfl]
 | x :: a, b, h => by
  have hx : x ≠ c := fun e => h (by rw [e]; exact List.mem_cons_self)
  show spl c (x :: (a ++ c :: b)) = _
  rw [spl, if_neg hx, spl_front b (fun h' => h (List.mem_cons_of_mem _ h'))]
def isDig (b : UInt8) : Bool := decide (48 ≤ b.toNat) && decide (b.toNat ≤ 57)
def dg (b : UInt8) : Nat := b.toNat - 48
theorem isDig_dg {b : UInt8} (h : isDig b = true) : dg b < 10 ∧ b.toNat = 48 + dg b := by
 unfold isDig at h
 simp only [Bool.and_eq_true, decide_eq_true_eq] at h
 unfold dg
 omega
end Go.Vm

namespace Go.Vm
open Go.Proofs Go.RowKit
def rst (c : UInt8) (l : List UInt8) : Nat → List UInt8
 | 0 => l
 | r + 1 => (rst c l r).drop (idxN c (rst c l r) + 1)
def pcs (c : UInt8) (l : List UInt8) (r : Nat) : List UInt8 := (rst c l r).take (idxN c (rst c l r))
theorem rst_count {c : UInt8} {l : List UInt8} : ∀ {r : Nat}, r ≤ l.count c → (rst c l r).count c = l.count c - r
 | 0, _ => rfl
 | r + 1, h => by
  have ih := rst_count (c := c) (l := l) (r := r) (by omega)
  have := (spl_some (c := c) (l := rst c l r) (by omega)).2.2.2
  show ((rst c l r).drop (idxN c (rst c l r) + 1)).count c = _
  omega
theorem rst_spl {c : UInt8} {l : List UInt8} : ∀ {r : Nat}, r ≤ l.count c → spl c l = (List.range r).map (pcs c l) ++ spl c (rst c l r)
 | 0, _ => rfl
 | r + 1, h => by
  have h1 := rst_count (c := c) (l := l) (r := r) (by omega)
  have h2 := (spl_some (c := c) (l := rst c l r) (by omega)).2.2.1
  rw [rst_spl (r := r) (by omega), h2, List.range_succ, List.map_append, List.append_assoc]
  rfl
theorem rst_length {c : UInt8} {l : List UInt8} : ∀ r, (rst c l r).length ≤ l.length
 | 0 => Nat.le_refl _
 | r + 1 => by
  have := rst_length (c := c) (l := l) r
  show ((rst c l r).drop _).length ≤ _
  rw [List.length_drop]
  omega
theorem rst_last (c : UInt8) (l : List UInt8) : spl c l = (List.range (l.count c)).map (pcs c l) ++ [rst c l (l.count c)] := by
 rw [rst_spl (Nat.le_refl _), spl_none (by rw [rst_count (Nat.le_refl _)]; omega)]
theorem str_eq {a b : ByteArray} : (a.toList == b.toList) = true ↔ a = b := by
 rw [Lib.toList_data, Lib.toList_data, beq_iff_eq]
 exact ⟨bytes_ext, fun h => by rw [h]⟩
theorem slice_str {s : ByteArray} {a b : Option Nat} (h : a.getD 0 ≤ b.getD s.size ∧ b.getD s.size ≤ s.size) : sliceA Tryz.prog 9 (sA s) a b none = some (sA (s.extract (a.getD 0) (b.getD s.size))) := by
 unfold sliceA
 simp only [sA, show Tryz.prog.underlying 9 = some .string by kernel_rfl]
 rw [if_pos ⟨rfl, h⟩]
theorem aop_slice {P : Program} {m : Bool} {g : Nat → Option Blk} {n : Nat} {ρ : Operand → Option AV} {o : Oper} {t : TypeId} {x : Operand} {lo hi : Option Operand} {a v : AV} {l h : Option Nat} (ho : o.op = .slice t x lo hi none) (hx : ρ x = some a) (hl : natOf (lo.bind ρ) = some l) (hh : natOf (hi.bind ρ) = some h)
  (h1 : lo.isSome = l.isSome) (h2 : hi.isSome = h.isSome) (hs : sliceA P t a l h none = some v) : aopF P m g n ρ o = some (.val v .same) := by
 rw [aopF_fun]
 obtain ⟨dst, op, ty, pos, after, guard⟩ := o
 simp only at ho
 subst ho
 simp only [aopT, plainT, aop, hx, hl, hh, Option.bind_none, show natOf none = some none from rfl, h1, h2, hs, beq_self_eq_true, Option.isSome_none, Bool.and_self, if_true, Option.map_some]
theorem nat_of {k : Nat} {a : Int} (h : a = k) : natOf (some (n' a)) = some (some k) := by
 subst h
 unfold natOf n'
 simp only
 rw [if_pos (by omega), Int.toNat_natCast]
def splC (c : UInt8) (l : List UInt8) (r : Nat) (i : Nat) : AV := sA (if i < r then bT (pcs c l i) else ByteArray.empty)
theorem under_splC (n m : Nat) (c : UInt8) (l : List UInt8) (r : Nat) : AV.unders n (cellsR m (splC c l r)) := by
 unfold cellsR
 generalize List.range m = L
 induction L with
 | nil => trivial
 | cons x L ih => exact ⟨trivial, ih⟩
theorem slice_hsl {N : Nat} (h : 0 < N) : sliceA Tryz.prog 93 (.hsl 0 0 N N) none (some N) none = some (.hsl 0 0 N N) := by
 unfold sliceA
 simp only [show Tryz.prog.underlying 93 = some (.slice 9) by kernel_rfl, show tsz Tryz.prog 9 = some 1 by kernel_rfl]
 rw [if_pos ⟨rfl, Nat.zero_le _, Nat.le_refl _, Nat.le_refl _, h⟩]
 rfl
theorem FrzL.strs (g : Nat → Option Blk) : ∀ L : List ByteArray, FrzL g (L.map sA) (L.map sA)
 | [] => FrzL.nil g
 | _ :: L => FrzL.cons (Frz.keep trivial) (FrzL.strs g L)
set_option maxHeartbeats 4000000 in
set_option maxRecDepth 100000 in
theorem c_gsplit (l : List UInt8) (c : UInt8) (hl : l.length ≤ 60000) (H : List Blk) : ACall Tryz.prog 214 [sA (bT l), sA ⟨#[c]⟩, n' 0, n' (-1)] H (.ret (eStrs ((spl c l).map bT))) H := by
 refine fn_ruleH (m := false) (fn := Tryz.f214) (c := (Tryz.f214.body).getD .skip) mixed (by kernel_rfl) (by kernel_rfl) (of_decide_eq_true (by kernel_rfl)) ?_ ?_ ?_ H
 ·exact ⟨trivial, trivial, trivial, trivial, trivial⟩
 ·exact under_eStrs _ _
 ·refine If.mk (fun h => absurd h (by decide)) (fun _ => ?_)
  refine ifN ?_
  refine IfB.mk (fun e => absurd (congrArg ByteArray.size (str_eq.1 e)) (fun h => absurd (show (1 : Nat) = 0 from h) (by decide))) (fun _ => ?_)
  refine If.mk (fun _ => ?_) (fun h => absurd (by decide) h)
  refine ifY ?_
  have hcl : l.count c ≤ l.length := List.count_le_length
  have hbs : (bT l).size = l.length := rfl
  have hcs : (⟨#[c]⟩ : ByteArray).size = 1 := rfl
  have hmin : (if (((bT l).size : Nat) : Int) + 1 < ((l.count c : Nat) : Int) + 1 then (((bT l).size : Nat) : Int) + 1 else ((l.count c : Nat) : Int) + 1) - 1 = ((l.count c : Nat) : Int) := by split <;> omega
  refine CallG.pure _ (c_countB l c) ?_
  refine Side.mk (fits64 (by omega)) ?_
  refine Side.mk (fits64 (by omega)) ?_
  refine Ex.mk _ rfl ?_
  refine now_of (aop_makeSlice (k := l.count c + 1) (e := 9) (bytes := 16) (x := .string ByteArray.empty) (z := .string ByteArray.empty) rfl rfl rfl (by split <;> omega) (by omega) (by kernel_rfl) (by kernel_rfl) (by kernel_rfl) (by kernel_rfl) rfl (by omega)) ?_
  refine Side.mk (fits64 (by omega)) ?_
  refine LoopG.at (n0 := 1) rfl (loop_up mixed (m := false) (fun r => [(0, sA (bT (rst c l r))), (1, sA ⟨#[c]⟩), (2, n' 0), (3, n' (l.count c : Nat)), (9, .hsl 0 0 (l.count c + 1) (l.count c + 1)), (10, n' r)]) (fun r => [(0, .box (cellsR (l.count c + 1) (splC c l r)) 9)]) (fun _ => True) (l.count c) 0 (leb rfl) trivial ?_ ?_ ?_)
  ·exact ⟨wp rfl trivial, wp rfl trivial, wp rfl trivial, ⟨_, rfl, Weak.of_eq (congrArg n' hmin), trivial⟩, wp rfl (ltb rfl), wp rfl trivial, trivial⟩
  ·exact ⟨bk rfl rfl, trivial⟩
  ·intro r hr _
   refine If.mk (fun h1 => ?_) (fun h1 => ?_)
   ·refine ifY ?_
    have hrc := rst_count (c := c) (l := l) hr
    obtain ⟨k1, k2, k3, k4⟩ := spl_some (c := c) (l := rst c l r) (by omega)
    have hrl := rst_length (c := c) (l := l) r
    have hb := bT_size (rst c l r)
    have hix := c_indexB (rst c l r) c
    rw [k2] at hix
    have hsl1 : sliceA Tryz.prog 9 (sA (bT (rst c l r))) none (some (idxN c (rst c l r))) none = some (sA (bT (pcs c l r))) := by
     rw [slice_str ⟨Nat.zero_le _, by show idxN c (rst c l r) ≤ (bT (rst c l r)).size; omega⟩]
     exact congrArg (fun x => some (sA x)) ((bT_extract (rst c l r) 0 (idxN c (rst c l r))).trans rfl)
    have hsl2 : sliceA Tryz.prog 9 (sA (bT (rst c l r))) (some (idxN c (rst c l r) + 1)) none none = some (sA (bT (rst c l (r + 1)))) := by
     rw [slice_str ⟨by show idxN c (rst c l r) + 1 ≤ (bT (rst c l r)).size; omega, Nat.le_refl _⟩]
     refine congrArg (fun x => some (sA x)) ((bT_extract (rst c l r) (idxN c (rst c l r) + 1) (bT (rst c l r)).size).trans ?_)
     rw [hb, List.take_length]
     rfl
    refine CallG.pure _ (hix) ?_
    refine If.mk (fun h => absurd h (by omega)) (fun _ => ?_)
    refine ifN ?_
    refine Side.mk (fits64 (by omega)) ?_
    refine Ex.mk _ (aop_slice (a := sA (bT (rst c l r))) (l := none) (h := some (idxN c (rst c l r))) rfl rfl rfl (nat_of (by omega)) rfl rfl hsl1) ?_
    have hset : (cellsR (l.count c + 1) (splC c l r)).take r ++ [sA (bT (pcs c l r))] ++ (cellsR (l.count c + 1) (splC c l r)).drop (r + 1) = cellsR (l.count c + 1) (splC c l (r + 1)) :=
     cellsR_set (by omega) (congrArg sA (if_pos (Nat.lt_succ_self r))) (fun y hy => by
      unfold splC
      by_cases h : y < r
      ·rw [if_pos h, if_pos (by omega)]
      ·rw [if_neg h, if_neg (by omega)])
    refine now_of (aop_indexH (elem := 9) (sz := 1) (r := r) rfl rfl rfl rfl (by omega) (by kernel_rfl) (by kernel_rfl)) ?_
    refine now_of (aop_stP (t := 9) rfl rfl rfl (store_ptr (cells' := cellsR (l.count c + 1) (splC c l (r + 1))) rfl (by kernel_rfl) (by rw [cellsR_length]; omega) rfl rfl (by rw [Nat.zero_add, Nat.mul_one]; exact hset))) ?_
    refine Side.mk (fits64 (by omega)) ?_
    refine Ex.mk _ (aop_slice (a := sA (bT (rst c l r))) (l := some (idxN c (rst c l r) + 1)) (h := none) rfl rfl (nat_of (by omega)) rfl rfl rfl hsl2) ?_
    refine Side.mk (fits64 (by omega)) ?_
    exact ⟨leb rfl, rfl, by omega, trivial, ⟨wp rfl trivial, wp rfl trivial, wp rfl trivial, wp rfl trivial, wp rfl (ltb rfl), wp rfl trivial, trivial⟩, ⟨bk rfl rfl, trivial⟩, ⟨_, rfl, under_splC _ _ _ _ _⟩, trivial⟩
   ·refine ifN ?_
    obtain rfl : r = l.count c := by omega
    have hset : (cellsR (l.count c + 1) (splC c l (l.count c))).take (l.count c) ++ [sA (bT (rst c l (l.count c)))] ++ (cellsR (l.count c + 1) (splC c l (l.count c))).drop (l.count c + 1) = ((spl c l).map bT).map sA := by
     unfold cellsR
     have hk : ((List.range (l.count c)).map (splC c l (l.count c))).length = l.count c := by rw [List.length_map, List.length_range]
     have hm : (List.range (l.count c)).map (splC c l (l.count c)) = (((List.range (l.count c)).map (pcs c l)).map bT).map sA := by
      rw [List.map_map, List.map_map]
      refine List.map_congr_left fun x hx => ?_
      exact congrArg sA (if_pos (List.mem_range.1 hx))
     rw [List.range_succ, List.map_append, List.take_append_of_le_length (Nat.le_of_eq hk.symm), List.take_of_length_le (Nat.le_of_eq hk), List.drop_of_length_le (by rw [List.length_append, hk]; exact Nat.le_refl _), List.append_nil, hm, rst_last c l, List.map_append, List.map_append]
     rfl
    refine ⟨leb rfl, ?_⟩
    refine now_of (aop_indexH (elem := 9) (sz := 1) (r := l.count c) rfl rfl rfl rfl (by omega) (by kernel_rfl) (by kernel_rfl)) ?_
    refine now_of (aop_stP (t := 9) rfl rfl rfl (store_ptr (cells' := ((spl c l).map bT).map sA) rfl (by kernel_rfl) (by rw [cellsR_length]; omega) rfl rfl (by rw [Nat.zero_add, Nat.mul_one]; exact hset))) ?_
    refine Side.mk (fits64 (by omega)) ?_
    refine Ex.mk _ (aop_slice (a := .hsl 0 0 (l.count c + 1) (l.count c + 1)) (l := none) (h := some (l.count c + 1)) rfl rfl rfl (nat_of (by omega)) rfl rfl (slice_hsl (Nat.succ_pos _))) ?_
    refine ⟨.inl rfl, rfl, _, rfl, ?_⟩
    have hlen : (((spl c l).map bT).map sA).length = l.count c + 1 := by rw [List.length_map, List.length_map, spl_length]
    have he : eStrs ((spl c l).map bT) = .sl (l.count c + 1) (((spl c l).map bT).map sA) .unk := by
     unfold eStrs
     rw [List.length_map, spl_length]
    rw [he]
    exact Frz.hsl (cells := ((spl c l).map bT).map sA) rfl hlen hlen (FrzL.strs _ _)
set_option maxRecDepth 100000 in
theorem c_split (l : List UInt8) (c : UInt8) (hl : l.length ≤ 60000) (H : List Blk) : ACall Tryz.prog 137 [sA (bT l), sA ⟨#[c]⟩] H (.ret (eStrs ((spl c l).map bT))) H := by
 refine fn_rule (m := false) (fn := Tryz.f137) (c := (Tryz.f137.body).getD .skip) mixed (by kernel_rfl) (by kernel_rfl) (of_decide_eq_true (by kernel_rfl)) ?_ ?_ ?_ H
 ·exact ⟨trivial, trivial, trivial⟩
 ·exact under_eStrs _ _
 ·refine CallG.pure _ (c_gsplit l c hl) ?_
  refine ⟨.inl rfl, FinG.mk _ rfl rfl ?_⟩
  show AV.sl _ (AV.freezes _ (((spl c l).map bT).map sA)) .unk = _
  rw [freezes_map (fun _ => rfl)]
  rfl
end Go.Vm
